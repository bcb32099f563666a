/- The walks of terms, made and awake. -/
import Derived.Test.YtjcmgkdlkadfmaaLc1
import Derived.Test.YtjcmgkdlkadfmaaLw8
import Derived.Test.YtjcmgkdlkadfmaaLr3
namespace Go.Proofs.Ytjcmgkdlkadfmaa
open Go.RowKit
set_option linter.unusedVariables false
set_option linter.unusedSimpArgs false
attribute [local go_sem] bmax2 bmin2 bmax_two bmin_two

def termsE (l : List Int) (k : Nat) : List Ent := (List.range k).map fun (j : Nat) => ⟨(j : Int) + 1, l.getD j 0, []⟩
def termsH (l : List Int) (k : Nat) : List EH := (List.range k).map fun (j : Nat) => ⟨(j : Int) + 1, l.getD j 0, none, 0, 0⟩

/-- A new block as a source of append. -/
theorem news_row (w : World) (cs : List Value) (n size : Nat) (t : TypeId) (hn : cs.length = n * size) : RowAt (w.alloc (.cells cs.toArray t)) (some ⟨w.heap.size, 0, none⟩) n size cs := by
  refine ⟨hn, (fun e => by cases e), fun p hp j u hu => ?_⟩
  cases hp
  rw [add_lit, Nat.zero_add, cell_of_row _ w.heap.size j cs.toArray t (0, 0) (heap_alloc_new w _)]
  simpa using hu

/-- What terms leaves. -/
def TermsPost (l : List Int) (w : World) (e : Ending) (w' : World) : Prop :=
  ∃ a c, e = .returned (.slice a l.length c) ∧ EsF (fun k => w.heap.size ≤ k) w' a l.length c (termsE l l.length) ∧ Ext w w'

set_option maxHeartbeats 1000000 in
theorem terms_any (b c : Nat) (l : List Int) (w : World) (hl : ∀ k, (h : k < l.length) → In64 l[k] ∧ w.cell? ⟨b, k, none⟩ = some (.int .i64 l[k])) (hn : l.length ≤ 1000) :
    Calls Try.prog 41 #[.slice (some ⟨b, 0, none⟩) l.length c] w (TermsPost l w) := by
  have HL := hid hl
  clear hl
  go_enter Try.func41, Try.ntmps41
  go_wp2
  go_loopw [3, 8] (fun v z wr => ∃ k : Nat, k ≤ l.length ∧ z = .int .i64 k ∧ wr.ownsRow w.heap.size 54 3 v k (rawH (termsH l k)) ∧ Ext w wr) (fun _ z _ => l.length - (intOf z).toNat)
  case atStart => exact ⟨0, Nat.zero_le _, rfl, World.ownsRow_nil _ _ _ _, Below.refl _ _⟩
  case round =>
    obtain ⟨k, hk, rfl, hown, hb⟩ := hrel
    by_cases hlt : k < l.length
    · obtain ⟨⟨hx1, hx2⟩, hcw⟩ := HL.out k hlt
      have hc := (hb.cell (p := ⟨b, k, none⟩) (World.block_lt_of_cell? w _ hcw)).trans hcw
      have hs := hb.size
      have hstep : rawH (termsH l k) ++ [.int .i64 ((k : Int) + 1), .int .i64 l[k], .slice none 0 0] = rawH (termsH l (k + 1)) := by
        unfold termsH
        rw [List.range_succ, List.map_append, rawH_append]
        simp [rawH, EH.cells, hlt]
      have HO := hid hown
      have HS := hid hstep
      clear hown hstep hcw
      generalize l[k] = x at *
      go_wp2_with (at_builtin; refine wpList_append_row rfl (.tmp 13) (.tmp 18) _ rfl w.heap.size 54 (.agg #[.int .i64 0, .int .i64 0, .slice none 0 0]) 3 40 Try.underlying22 info_ent rfl (by decide) _ k (rawH (termsH l k)) rfl (HO.out.alloc _) (some ⟨wr.heap.size, 0, none⟩) 1 1 [.int .i64 ((k : Int) + 1), .int .i64 x, .slice none 0 0] rfl (fun e => by cases e) (news_row wr [.int .i64 ((k : Int) + 1), .int .i64 x, .slice none 0 0] 1 3 54 rfl) (by intro u hu; simp at hu; rcases hu with rfl | rfl | rfl <;> rfl) (by unfold maxLen; omega) (by omega) (by simp; omega) ?_; intro v' w1 hown1 hg)
      rw [HS.out] at hown1
      have HO1 := hid hown1
      have hx : Ext w w1 := (hb.alloc hs _).grown hg (by simp; omega) (fun q hq => by have := HO.out.lt q hq; omega)
      clear hown1 hg
      go_wp2
      go_roundw
      case rel => exact ⟨k + 1, by omega, by go_num, HO1.out, hx⟩
      case measure => simp [intOf]; omega
    · have hke : k = l.length := by omega
      subst hke
      obtain ⟨a, c', rfl, he⟩ := EsF.of_own (F := fun _ => False) (H := termsH l l.length) (l := termsE l l.length) (by simp [termsH, termsE]) (by simp [termsE]) (by simp [termsE]; omega) hown
        (fun k h1 h2 => by simp [termsH, termsE]; exact ByF.nil_ _ _)
        (fun k hk => by
          have hk' : k < l.length := by simpa [termsE] using hk
          have hg : (termsE l l.length)[k] = ⟨(k : Int) + 1, l.getD k 0, []⟩ := by simp [termsE]
          rw [hg]
          have h1 := (HL.out k hk').1
          simp only [List.getD_eq_getElem?_getD, List.getElem?_eq_getElem hk', Option.getD_some]
          exact ⟨⟨by omega, by omega⟩, h1⟩)
      have hlen : (termsE l l.length).length = l.length := by simp [termsE]
      rw [hlen] at he
      have HE := hid he
      clear he hown
      go_wp2
      go_ret
      refine ⟨a, c', by rw [hlen]; rfl, HE.out.more fun q hq => ?_, hb⟩
      rcases hq with hq | hq
      · exact hq.elim
      · exact hq

/-- A base with entries, as a law takes it. -/
abbrev baseV (i t : Int) (a : Option Addr) (n c : Nat) : Value := .agg #[.int .i64 i, .int .i64 t, .slice a n c]

set_option maxHeartbeats 1000000 in
theorem made_bad {F : Nat → Prop} (i t : Int) (a : Option Addr) (n c : Nat) (l : List Ent) (w : World) (hi : In64 i) (hl : EsF F w a n c l) (hok : ¬ LS.Ok ⟨i, t, l⟩) :
    Calls Try.prog 15 #[baseV i t a n c] w fun e w' => e = .returned (.tuple #[.pointer none, .pointer none, .bool false]) ∧ Ext w w' := by
  have HL := hid hl
  have HI := hid hi
  have HO := hid hok
  clear hl hi hok
  go_enter Try.func15, Try.ntmps15
  go_wp2_with fail
  refine (New_bad i t a n c l _ HI.out (by exact HL.out.below (ext_alloc _ _)) HO.out).mono ?_
  rintro e w1 ⟨rfl, hb1⟩
  have hb0 : Ext w w1 := Ext.trans' (ext_alloc _ _) hb1
  have c0 := (hb1.cell (p := ⟨w.heap.size, 0, none⟩) (by simp)).trans (show (w.alloc (.cells #[.int .i64 i, .int .i64 t, .slice a n c] 24)).cell? ⟨w.heap.size, 0, none⟩ = some (.int .i64 i) by unfold World.cell?; rw [heap_alloc_new]; rfl)
  have c1 := (hb1.cell (p := ⟨w.heap.size, 1, none⟩) (by simp)).trans (show (w.alloc (.cells #[.int .i64 i, .int .i64 t, .slice a n c] 24)).cell? ⟨w.heap.size, 1, none⟩ = some (.int .i64 t) by unfold World.cell?; rw [heap_alloc_new]; rfl)
  have c2 := (hb1.cell (p := ⟨w.heap.size, 2, none⟩) (by simp)).trans (show (w.alloc (.cells #[.int .i64 i, .int .i64 t, .slice a n c] 24)).cell? ⟨w.heap.size, 2, none⟩ = some (.slice a n c) by unfold World.cell?; rw [heap_alloc_new]; rfl)
  go_wp2_with fail
  refine (RNew_bad i t a n c l _ HI.out (by exact HL.out.below hb0) HO.out).mono ?_
  rintro e w2 ⟨rfl, hb2⟩
  go_wp2
  go_ret3
  exact ⟨rfl, Ext.trans' hb0 hb2⟩

/-- What made leaves: a ledger and a reference's, apart from one another. -/
def MadePost (F : Nat → Prop) (s : LS) (w : World) (e : Ending) (w' : World) : Prop :=
  ∃ b b', e = .returned (.tuple #[.pointer (some ⟨b, 0, none⟩), .pointer (some ⟨b', 0, none⟩), .bool true]) ∧
    LedAt (fun k => w.heap.size ≤ k ∧ k ≠ b ∧ k ≠ b') w' b s ∧ RefAt (fun k => (F k ∧ k < w.heap.size) ∨ (w.heap.size ≤ k ∧ k ≠ b ∧ k ≠ b')) w' b' s ∧ w.heap.size ≤ b ∧ w.heap.size ≤ b' ∧ b ≠ b' ∧ Ext w w'

set_option maxHeartbeats 1000000 in
theorem made_ok {F : Nat → Prop} (i t : Int) (a : Option Addr) (n c : Nat) (l : List Ent) (w : World) (hi : In64 i) (ht : In64 t) (hl : EsF F w a n c l) (hok : LS.Ok ⟨i, t, l⟩) :
    Calls Try.prog 15 #[baseV i t a n c] w (MadePost F ⟨i, t, l⟩ w) := by
  have HL := hid hl
  have HI := hid hi
  have HT := hid ht
  have HO := hid hok
  clear hl hi ht hok
  have hsw := (ext_alloc w (.cells #[.int .i64 i, .int .i64 t, .slice a n c] 24)).size
  go_enter Try.func15, Try.ntmps15
  go_wp2_with fail
  refine (New_ok i t a n c l _ HI.out HT.out (by exact HL.out.below (ext_alloc _ _)) HO.out).mono ?_
  rintro e w1 ⟨b, rfl, hled, hbb, hb1⟩
  have hb0 : Ext w w1 := Ext.trans' (ext_alloc _ _) hb1
  have c0 := (hb1.cell (p := ⟨w.heap.size, 0, none⟩) (by simp)).trans (show (w.alloc (.cells #[.int .i64 i, .int .i64 t, .slice a n c] 24)).cell? ⟨w.heap.size, 0, none⟩ = some (.int .i64 i) by unfold World.cell?; rw [heap_alloc_new]; rfl)
  have c1 := (hb1.cell (p := ⟨w.heap.size, 1, none⟩) (by simp)).trans (show (w.alloc (.cells #[.int .i64 i, .int .i64 t, .slice a n c] 24)).cell? ⟨w.heap.size, 1, none⟩ = some (.int .i64 t) by unfold World.cell?; rw [heap_alloc_new]; rfl)
  have c2 := (hb1.cell (p := ⟨w.heap.size, 2, none⟩) (by simp)).trans (show (w.alloc (.cells #[.int .i64 i, .int .i64 t, .slice a n c] 24)).cell? ⟨w.heap.size, 2, none⟩ = some (.slice a n c) by unfold World.cell?; rw [heap_alloc_new]; rfl)
  have HLED := hid hled
  clear hled
  go_wp2_with fail
  refine (RNew_ok i t a n c l _ HI.out HT.out (by exact HL.out.lt.below hb0) HO.out).mono ?_
  rintro e w2 ⟨b', rfl, href, hbb', hb2⟩
  have HREF := hid href
  clear href
  go_wp2
  go_ret3
  have h1 := HLED.out.lt
  have hs0 := hb0.size
  have hs2 := hb2.size
  refine ⟨b, b', rfl, ?_, ?_, by omega, by omega, by omega, Ext.trans' hb0 hb2⟩
  · refine HLED.out.keep (hb2.block b h1) (fun k hk hs => ⟨⟨by omega, hk.2, by omega⟩, hb2.block k hs⟩) (fun h => h.2.1 rfl)
  · refine HREF.out.keep rfl (fun k hk hs => ⟨?_, rfl⟩) ?_
    · rcases hk with ⟨hk, hlt⟩ | ⟨hk, hne⟩
      · exact .inl hk
      · exact .inr ⟨by omega, by omega, hne⟩
    · rintro (hk | hk)
      · omega
      · exact hk.2.2 rfl
end Go.Proofs.Ytjcmgkdlkadfmaa
