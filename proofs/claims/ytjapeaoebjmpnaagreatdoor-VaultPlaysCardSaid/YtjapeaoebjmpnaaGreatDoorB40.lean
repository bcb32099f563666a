/- The walk of the reference's Open (06). Printed by gen_rx4.py. -/
import Derived.Test.YtjapeaoebjmpnaaGreatDoorB39
import Derived.Test.YtjapeaoebjmpnaaGreatDoorB17
import Derived.Test.YtjapeaoebjmpnaaGreatDoorB27
namespace Go.Proofs.YtjapeaoebjmpnaaGreatDoor
open Go.RowKit Go.Maps
set_option linter.unusedVariables false
set_option linter.unusedSimpArgs false
attribute [local go_sem] bmax2 bmin2 bmax_two bmin_two

/-! ### plain: of whole states the greatest is kept -/
open Classical in
noncomputable def rkeepS (d : DS) (k : Sn × Bool) (f : Nm) : Sn × Bool :=
  if isSnap f = true then
    (match readS (d.read f).1 with
    | some s => if f = nameB s.i ∧ (k.2 = false ∨ k.1.i < s.i) then (s, true) else k
    | none => k)
  else k
theorem rkeep_fold {d : DS} : ∀ (l : List Nm) (k : Sn × Bool), l.Pairwise (fun a b => bytesBefore a b = true) →
    (∀ f ∈ l, ∀ s, readS (d.read f).1 = some s → f = nameB s.i → k.2 = false ∨ k.1.i < s.i) → l.foldl (rkeepS d) k = l.foldl (keepS d) k := by
  intro l
  induction l with
  | nil => intro k _ _; rfl
  | cons f l ih =>
    intro k hp hk
    have hp1 := List.pairwise_cons.1 hp
    have e : rkeepS d k f = keepS d k f := by
      have h1 := hk f (List.mem_cons_self ..)
      unfold rkeepS keepS
      split
      · cases hr : readS (d.read f).1 with
        | none => rfl
        | some s =>
          dsimp only
          by_cases hf : f = nameB s.i
          · rw [if_pos ⟨hf, h1 s hr hf⟩, if_pos hf]
          rw [if_neg (fun h => hf h.1), if_neg hf]
      rfl
    rw [List.foldl_cons, List.foldl_cons, e]
    refine ih _ hp1.2 fun f' hf' s' hr' hn' => ?_
    have h2 := hk f' (List.mem_cons_of_mem _ hf') s' hr' hn'
    unfold keepS
    split
    · cases hr : readS (d.read f).1 with
      | none => exact h2
      | some s =>
        dsimp only
        by_cases hf : f = nameB s.i
        · rw [if_pos hf]
          right
          have hb := hp1.1 f' hf'
          rw [hf, hn'] at hb
          have c1 := check_i (readS_some hr).1
          have c2 := check_i (readS_some hr').1
          exact nameB_lt c1.1 c2.1 c1.2 c2.2 hb
        rw [if_neg hf]; exact h2
    exact h2
theorem rkept_eq {d : DS} (hr : tRise d.seen) : kept d = d.list.foldl (rkeepS d) (sn0, false) := by
  have hp : d.list.Pairwise (fun a b => bytesBefore a b = true) := by
    unfold DS.list
    split
    · exact List.Pairwise.nil
    rw [List.pairwise_map]; exact hr
  exact (rkeep_fold d.list (sn0, false) hp fun _ _ _ _ _ => .inl rfl).symm
theorem rtake_fold (d : DS) (l : List Nm) {k : Nat} (hk : k < l.length) : (l.take (k + 1)).foldl (rkeepS d) (sn0, false) = rkeepS d ((l.take k).foldl (rkeepS d) (sn0, false)) l[k] := by
  rw [List.take_succ_eq_append_getElem hk, List.foldl_append]; rfl

/-! ### the reference's vault in memory -/
def RVaO (G : Nat → Prop) (w : World) (g : Nat) (s : Sn) (sm : Bool) (dg : Nat) : Prop :=
  ∃ va vn vc da dn dc, w.heap[g]? = some (.cells #[.pointer (some ⟨dg, 0, none⟩), .int .i64 s.i, .int .i64 s.t, .slice va vn vc, .slice da dn dc, .bool sm] 126 (0, 0)) ∧
    SnV G w (.agg #[.int .i64 s.i, .int .i64 s.t, .slice va vn vc, .slice da dn dc]) s
theorem RVaO.keep {F G : Nat → Prop} {w w' : World} {g dg : Nat} {s : Sn} {sm : Bool} (h : RVaO F w g s sm dg) (hg : w'.heap[g]? = w.heap[g]?) (hf : ∀ k, F k → k < w.heap.size → G k ∧ w'.heap[k]? = w.heap[k]?) : RVaO G w' g s sm dg := by
  obtain ⟨va, vn, vc, da, dn, dc, h1, h2⟩ := h
  exact ⟨va, vn, vc, da, dn, dc, hg.trans h1, h2.keep hf⟩
theorem RVaO.lt {G : Nat → Prop} {w : World} {g dg : Nat} {s : Sn} {sm : Bool} (h : RVaO G w g s sm dg) : g < w.heap.size := by
  obtain ⟨va, vn, vc, da, dn, dc, h1, h2⟩ := h
  exact (Array.getElem?_eq_some_iff.1 h1).1
theorem RVaO.below {G : Nat → Prop} {w w' : World} {g dg : Nat} {s : Sn} {sm : Bool} (h : RVaO G w g s sm dg) (hx : Ext w w') : RVaO G w' g s sm dg := h.keep (hx.block g h.lt) fun k hk hl => ⟨hk, hx.block k hl⟩
theorem RPost.next {D : Nat → Prop} {w w1 w2 w3 : World} {g : Nat} {s : DS} {r : Int × DS} {e : Ending} (h1 : RDk (grow D w w1) w1 g s) (hf1 : Frm D w w1) (hx : Ext w1 w2) (h : RPost (grow D w w1) g r w2 e w3) : RPost D g r w e w3 := by
  obtain ⟨p1, p2, p3⟩ := h
  have z1 := hf1.size
  have z2 := hx.size
  have z3 := p3.size
  have hl := h1.lt
  refine ⟨p1, p2.more (grow.trans2 (by omega) (by omega)) fun q hq => ?_, ?_⟩
  · rcases hq with hq | hq
    · have h3 := hl q (.inl hq); omega
    exact hq.2
  exact (hf1.then_ext hx).trans p3 fun q hq => by
    rcases hq with hq | hq
    · exact .inl hq
    exact .inr hq.1
/-- The reference's vault with its disk. -/
def RVaAt (A : Nat → Prop) (w : World) (g dg : Nat) (v : VS) : Prop :=
  ∃ D G, RDk D w dg v.d ∧ RVaO G w g v.s v.some dg ∧ (∀ q, D q → A q ∧ q ≠ g ∧ ¬ G q) ∧ (∀ q, G q → A q ∧ q ≠ g) ∧ A g ∧ ∀ q, A q → q < w.heap.size
theorem RVaAt.lt {A : Nat → Prop} {w : World} {g dg : Nat} {v : VS} (h : RVaAt A w g dg v) : ∀ q, A q → q < w.heap.size := by
  obtain ⟨D, G, -, -, -, -, -, h⟩ := h; exact h
theorem RVaAt.frm {A E : Nat → Prop} {w w' : World} {g dg : Nat} {v : VS} (h : RVaAt A w g dg v) (hf : Frm E w w') (hE : ∀ q, A q → ¬ E q) : RVaAt A w' g dg v := by
  obtain ⟨D, G, h1, h2, h3, h4, h5, h6⟩ := h
  refine ⟨D, G, h1.frm hf fun q hq => hE q (h3 q hq).1, h2.keep (hf.block g (h6 g h5) (hE g h5)) fun k hk hl => ⟨hk, hf.block k hl (hE k (h4 k hk).1)⟩, h3, h4, h5, fun q hq => Nat.lt_of_lt_of_le (h6 q hq) hf.size⟩
theorem RVaAt.below {A : Nat → Prop} {w w' : World} {g dg : Nat} {v : VS} (h : RVaAt A w g dg v) (hf : Ext w w') : RVaAt A w' g dg v := h.frm (Frm.of_ext hf (fun _ => False)) fun _ _ h => h
theorem RVaAt.more {A E : Nat → Prop} {w : World} {g dg : Nat} {v : VS} (h : RVaAt A w g dg v) (hE : ∀ q, A q → E q) (hl : ∀ q, E q → q < w.heap.size) : RVaAt E w g dg v := by
  obtain ⟨D, G, h1, h2, h3, h4, h5, h6⟩ := h
  exact ⟨D, G, h1, h2, fun q hq => ⟨hE q (h3 q hq).1, (h3 q hq).2⟩, fun q hq => ⟨hE q (h4 q hq).1, (h4 q hq).2⟩, hE g h5, hl⟩
def RSavePost (A : Nat → Prop) (g dg : Nat) (r : Int × VS) (w : World) (e : Ending) (w' : World) : Prop :=
  e = .returned (.int .i64 r.1) ∧ RVaAt (grow A w w') w' g dg r.2 ∧ Frm A w w'
theorem RVaAt.same {A : Nat → Prop} {w w' : World} {g dg : Nat} {v : VS} (h : RVaAt A w g dg v) (hx : Ext w w') (z : Int) : RSavePost A g dg (z, v) w (.returned (.int .i64 z)) w' :=
  ⟨rfl, (h.below hx).more (fun q hq => .inl hq) (grow.lt h.lt hx.size), Frm.of_ext hx A⟩
/-- The disk did something. -/
theorem RVaAt.disk {A D G : Nat → Prop} {w w1 w2 : World} {g dg : Nat} {v : VS} {d : DS} (h2 : RVaO G w1 g v.s v.some dg) (h3 : ∀ q, D q → A q ∧ q ≠ g ∧ ¬ G q) (h4 : ∀ q, G q → A q ∧ q ≠ g) (h5 : A g) (h6 : ∀ q, A q → q < w.heap.size)
    (h6D : ∀ q, D q → q < w1.heap.size) (hx : Frm A w w1) (hp : RDk (grow D w1 w2) w2 dg d) (hf : Frm D w1 w2) : RVaAt (grow A w w2) w2 g dg ⟨v.s, v.some, d⟩ ∧ Frm A w w2 := by
  have z1 := hx.size
  have z2 := hf.size
  have hG : ∀ k, G k → ¬ D k := fun k hk hD => (h3 k hD).2.2 hk
  have hgD : ¬ D g := fun h => (h3 g h).2.1 rfl
  refine ⟨⟨grow D w1 w2, G, hp, h2.keep (hf.block g h2.lt hgD) fun k hk hl => ⟨hk, hf.block k hl (hG k hk)⟩, fun q hq => ?_, fun q hq => ⟨.inl (h4 q hq).1, (h4 q hq).2⟩, .inl h5, fun q hq => ?_⟩, hx.trans hf fun q hq => .inl (h3 q hq).1⟩
  · rcases hq with hq | hq
    · exact ⟨.inl (h3 q hq).1, (h3 q hq).2⟩
    refine ⟨.inr ⟨by omega, hq.2⟩, ?_, fun h => ?_⟩
    · have := h6 g h5; omega
    have := h6 q (h4 q h).1; omega
  rcases hq with hq | hq
  · have := h6 q hq; omega
  exact hq.2
def ROpenPost (D : Nat → Prop) (dg : Nat) (r : Int × DS) (ks : Sn × Bool) (w : World) (e : Ending) (w' : World) : Prop :=
  (r.1 ≠ 0 ∧ e = .returned (.tuple #[.pointer none, .int .i64 r.1]) ∧ RDk (grow D w w') w' dg r.2 ∧ Frm D w w') ∨
  (r.1 = 0 ∧ ∃ g, e = .returned (.tuple #[.pointer (some ⟨g, 0, none⟩), .int .i64 0]) ∧ RVaAt (grow D w w') w' g dg ⟨ks.1, ks.2, r.2⟩ ∧ Frm D w w')
theorem ropen_done {D : Nat → Prop} {w w4 wy w6 wz : World} {g dg : Nat} {ks : Sn × Bool} {d : DS} (hx4 : Ext w w4) (hg : w.heap.size ≤ g) (hg4 : g < w4.heap.size) (hD : ∀ q, D q → q < w.heap.size) (hF : Frm (fun q => q = g) w4 wy)
    (hV : RVaO (fun q => w4.heap.size ≤ q ∧ q < wy.heap.size) wy g ks.1 ks.2 dg) (hx6 : Ext wy w6) (hz : RDk (grow D w6 wz) wz dg d) (hFz : Frm D w6 wz) :
    RVaAt (grow D w wz) wz g dg ⟨ks.1, ks.2, d⟩ ∧ RDk (grow D w wz) wz dg d ∧ Frm D w wz := by
  have z4 := hx4.size
  have zy := hF.size
  have z6 := hx6.size
  have zz := hFz.size
  have hl := hz.lt
  have hgr : ∀ q, grow D w wz q → q < wz.heap.size := fun q hq => by
    rcases hq with hq | hq
    · exact hl q (.inl hq)
    exact hq.2
  have hsub : ∀ q, grow D w6 wz q → grow D w wz q := fun q hq => by
    rcases hq with hq | hq
    · exact .inl hq
    exact .inr ⟨by omega, hq.2⟩
  refine ⟨⟨grow D w6 wz, _, hz, (hV.below hx6).keep (G := fun q => w4.heap.size ≤ q ∧ q < wy.heap.size) (hFz.block g (by omega) fun h => by have := hD g h; omega) (fun k hk h2 => ⟨hk, hFz.block k h2 fun h => by have := hD k h; have := hk.1; omega⟩), fun q hq => ⟨hsub q hq, ?_, ?_⟩, fun q hq => ⟨.inr ⟨by omega, by omega⟩, by omega⟩, .inr ⟨hg, by omega⟩, hgr⟩, hz.more hsub hgr, ?_⟩
  · rcases hq with hq | hq
    · have := hD q hq; omega
    omega
  · rintro ⟨h1, h2⟩
    rcases hq with hq | hq
    · have := hD q hq; omega
    omega
  exact (((Frm.of_ext hx4 D).trans hF fun q hq => .inr (by rw [hq]; exact hg)).then_ext hx6).trans hFz fun q hq => .inl hq

set_option maxRecDepth 100000 in
set_option maxHeartbeats 16000000 in
theorem ROpen_any {D : Nat → Prop} {w : World} {dg : Nat} {d : DS} (hd : RDk D w dg d) (hok : d.Ok) (hnm : d.Nms) (hr : tRise d.seen) (hc : d.acts.length ≤ 1000000000) :
    Calls Tryz.prog 29 #[.pointer (some ⟨dg, 0, none⟩)] w (ROpenPost D dg (openS d) (kept d) w) := by
  have HD := hid hd
  have HDL := hid hd.lt
  have HOK := hid hok
  have HC := hid hc
  have hll := DS.list_len hok
  have HNM := hid (DS.list_nm hnm hok)
  have hkept := rkept_eq hr
  have hko := kept_ok d d.list (sn0, false) (by simp)
  have HLP := hid (fun W (hW : RDk D W dg d) => RList_any hW hok (by omega))
  have hopen : openS d = if (dropsS (kept d) d.list d).1 ≠ 0 then dropsS (kept d) d.list d else (dropsS (kept d) d.list d).2.sync := rfl
  obtain ⟨ks, hks⟩ : ∃ ks, ks = kept d := ⟨_, rfl⟩
  change (kept d).2 = true → checkS (kept d).1 = 0 at hko
  rw [← hks] at hko
  unfold ListPost at HLP
  obtain ⟨L, hL⟩ : ∃ L, L = d.list := ⟨_, rfl⟩
  rw [← hks] at hkept hopen ⊢
  rw [← hL] at hll HNM hkept hopen HLP
  have HKS := hid hkept
  have HOPEN := hid hopen
  have HKO := hid hko
  clear hd hok hnm hc hkept hopen hks hL hr hko
  go_enter Tryz.func29, Tryz.ntmps29
  go_wp2_with fail
  have hx12 := ext_alloc w (.cells #[.pointer (some ⟨dg, 0, none⟩), .int .i64 0, .int .i64 0, .slice none 0 0, .slice none 0 0, .bool false] 126)
  have hg2 := heap_alloc_new w (.cells #[.pointer (some ⟨dg, 0, none⟩), .int .i64 0, .int .i64 0, .slice none 0 0, .slice none 0 0, .bool false] 126)
  have hz2 : (w.alloc (.cells #[.pointer (some ⟨dg, 0, none⟩), .int .i64 0, .int .i64 0, .slice none 0 0, .slice none 0 0, .bool false] 126)).heap.size = w.heap.size + 1 := World.size_alloc ..
  generalize w.alloc (.cells #[.pointer (some ⟨dg, 0, none⟩), .int .i64 0, .int .i64 0, .slice none 0 0, .slice none 0 0, .bool false] 126) = w2 at *
  obtain ⟨g, hg⟩ : ∃ g, g = w.heap.size := ⟨_, rfl⟩
  rw [← hg] at hg2 ⊢
  have HGW := hid (show w.heap.size ≤ g from by omega)
  have HZ2 := hid (show w2.heap.size = g + 1 by rw [hz2, hg])
  refine Calls.mono (HLP.out w2 (HD.out.below hx12)) ?_
  rintro e w4 ⟨v, rfl, hrow, hx4⟩
  obtain ⟨ra, rc, rfl, hrc, hcell⟩ := row_str hrow
  have HCELL := hid hcell
  have HX4 := hid (hx12.trans' hx4)
  have HG4 := hid (show g < w4.heap.size by have := hx4.size; have := HZ2.out; omega)
  have HV4 := hid (show RVaO (fun q => w4.heap.size ≤ q ∧ q < w4.heap.size) w4 g sn0 false dg from ⟨none, 0, 0, none, 0, 0, (hx4.block g (by have := HZ2.out; omega)).trans hg2, SnV.zero2 _ _⟩)
  clear hrow hcell hx12 hg2 hx4 hz2 hg
  go_wp2
  go_loopw [6, 7, 8, 9, 10, 21] (fun _ _ _ _ _ z wr => ∃ (k : Nat), k ≤ L.length ∧ z = .int .i64 (k : Int) ∧ Hid (RVaO (fun q => w4.heap.size ≤ q ∧ q < wr.heap.size) wr g ((L.take k).foldl (rkeepS d) (sn0, false)).1 ((L.take k).foldl (rkeepS d) (sn0, false)).2 dg) ∧ Hid (Frm (fun q => q = g) w4 wr)) (fun _ _ _ _ _ z _ => L.length - (intOf z).toNat)
  case atStart => exact ⟨0, Nat.zero_le _, rfl, HV4.out, Frm.refl _ _⟩
  obtain ⟨k, hk, rfl, HV, HF⟩ := hrel
  have HDr := hid ((HD.out.below HX4.out).frm HF.out fun q hq e => by have h1 := HDL.out q hq; have h2 := HGW.out; have h3 : q = g := e; omega)
  by_cases hlt : k < L.length
  · obtain ⟨rb, hra, hrB, hrl, hcw⟩ := HCELL.out k hlt
    subst hra
    have hcr := (HF.out.cell (p := ⟨rb, k, none⟩) hrl (by show ¬ rb = g; have := HZ2.out; omega)).trans hcw
    have hfold := rtake_fold d L hlt
    have hfm := HNM.out L[k] (List.getElem_mem _)
    obtain ⟨f, hf⟩ : ∃ f, f = L[k] := ⟨_, rfl⟩
    rw [← hf] at hcr hfold hfm
    obtain ⟨ka, hka⟩ : ∃ ka, ka = ((L.take k).foldl (rkeepS d) (sn0, false)) := ⟨_, rfl⟩
    rw [← hka] at HV hfold
    have HFO := hid hfold
    have HFM := hid hfm
    have HSNP := hid (fun W => RSn_any W f (by have := HFM.out; unfold maxLen; omega))
    have HRD := hid (RRead2_any HDr.out HOK.out (by have := HC.out; omega) f (by have := HFM.out; unfold maxLen; omega))
    clear hcw hrB hrl hf hka hfold hfm
    go_wp2_with fail
    refine Calls.mono HRD.out ?_
    rintro e w6 ⟨a6, n6, c6, rfl, hby, hx6⟩
    have HX6 := hid hx6
    have hn6 : n6 ≤ 16777216 := by rw [hby.1]; exact read_len HOK.out f
    have HRA := hid (R6Read_any hby (by omega))
    obtain ⟨bts, hbts⟩ : ∃ bts, bts = (d.read f).1 := ⟨_, rfl⟩
    have HBT := hid hbts
    rw [← hbts] at HRA
    clear hby hx6 hbts hn6
    go_wp2_with fail
    refine Calls.mono HRA.out ?_
    rintro e w7 ⟨hx7, q, v0, v1, v2, v3, ok, hsv, rfl, hres⟩
    have HRES := hid hres
    have hbig : w4.heap.size ≤ w6.heap.size := by have := HF.out.size; have := HX6.out.size; omega
    have HSV := hid (hsv.more (G := fun q => w4.heap.size ≤ q ∧ q < w7.heap.size) fun q hq => ⟨by omega, hq.2⟩)
    obtain ⟨na, nn, nc, ma, mn, mc, hagg, -⟩ := hsv
    simp only [Value.agg.injEq, Array.mk.injEq, List.cons.injEq, and_true] at hagg
    obtain ⟨rfl, rfl, rfl, rfl⟩ := hagg
    have hx8 := ext_alloc w7 (.cells #[.int .i64 q.i, .int .i64 q.t, .slice na nn nc, .slice ma mn mc] 25)
    have hb8 := heap_alloc_new w7 (.cells #[.int .i64 q.i, .int .i64 q.t, .slice na nn nc, .slice ma mn mc] 25)
    have HXZ7 := hid (HX6.out.trans' hx7)
    clear hx7 hbig HRD HRA hres
    go_wp2
    generalize w7.alloc (.cells #[.int .i64 q.i, .int .i64 q.t, .slice na nn nc, .slice ma mn mc] 25) = wz at *
    obtain ⟨z, hz⟩ : ∃ z, z = w7.heap.size := ⟨_, rfl⟩
    rw [← hz] at hb8 ⊢
    have HXZ := hid (HXZ7.out.trans' hx8)
    have HZS := hid (show wr.heap.size ≤ wz.heap.size from HXZ.out.size)
    have HSZ := hid ((HSV.out.below hx8).more (G := fun q => w4.heap.size ≤ q ∧ q < wz.heap.size) fun q hq => ⟨hq.1, Nat.lt_of_lt_of_le hq.2 hx8.size⟩)
    have HVZ := hid (HV.out.below HXZ.out)
    have HB8 := hid hb8
    have HCLZ := hid (fun (W : World) (hW : Ext wz W) => (cells4 ((hW.block z (Array.getElem?_eq_some_iff.1 HB8.out).1).trans HB8.out)).1)
    clear hx8 hb8 hz HXZ7 HSV HV
    cases hsn : isSnap f with
    | false =>
      rw [hsn] at HSNP
      have HK2 := hid (show rkeepS d ka f = ka by unfold rkeepS; rw [if_neg (by rw [hsn]; simp)])
      clear hsn
      have y0 : Ext wz wz.drew := ext_drew wz
      refine wp_region_held_drew (S := fun W => Ext wz W) (by kernel_rfl) y0 (fun hH => ?_)
      obtain ⟨wd, hwd⟩ : ∃ wd, wd = wz.drew := ⟨_, rfl⟩
      rw [← hwd] at y0 ⊢
      clear hH hwd
      refine hr_ 0 (.string ⟨f.toArray⟩) rfl y0 (fun W hW => ?_) ?_
      · (clear hW; go_simp)
      try simp only [Act.put, sA_, s0_, sS_]
      refine hc_ 1 rfl (fun K hK => ?_)
      go_simp
      go_at_call 74
      refine Calls.mono (HSNP.out _) ?_
      rintro e wa ⟨rfl, rfl⟩
      have y1 := y0
      refine hK.out _ _ y1 (fun hH => ?_)
      clear hK K y0 hH
      have y0 := y1
      clear y1
      try simp only [Act.put, sA_, s0_, sS_]
      refine hr_ 2 (.bool false) rfl y0 (fun W hW => ?_) ?_
      · (clear hW; go_simp)
      try simp only [Act.put, sA_, s0_, sS_]
      refine hs_ 3 rfl y0 ?_
      try simp only [Act.put, sA_, s0_, sS_]
      refine hr_ 4 (.bool false) rfl y0 (fun W hW => ?_) ?_
      · (clear hW; go_simp)
      try simp only [Act.put, sA_, s0_, sS_]
      refine hr_ 5 (.bool false) rfl y0 (fun W hW => ?_) ?_
      · (clear hW; go_simp)
      try simp only [Act.put, sA_, s0_, sS_]
      refine hs_ 6 rfl y0 ?_
      try simp only [Act.put, sA_, s0_, sS_]
      refine hs_ 7 rfl y0 ?_
      try simp only [Act.put, sA_, s0_, sS_]
      refine hs_ 8 rfl y0 ?_
      try simp only [Act.put, sA_, s0_, sS_]
      refine hs_ 9 rfl y0 ?_
      try simp only [Act.put, sA_, s0_, sS_]
      refine hs_ 10 rfl y0 ?_
      try simp only [Act.put, sA_, s0_, sS_]
      refine hr_ 11 (.bool false) rfl y0 (fun W hW => ?_) ?_
      · (clear hW; go_simp)
      try simp only [Act.put, sA_, s0_, sS_]
      refine hr_ 12 (.bool false) rfl y0 (fun W hW => ?_) ?_
      · (clear hW; go_simp)
      try simp only [Act.put, sA_, s0_, sS_]
      refine hs_ 13 rfl y0 ?_
      try simp only [Act.put, sA_, s0_, sS_]
      refine hs_ 14 rfl y0 ?_
      try simp only [Act.put, sA_, s0_, sS_]
      refine hs_ 15 rfl y0 ?_
      try simp only [Act.put, sA_, s0_, sS_]
      refine hs_ 16 rfl y0 ?_
      try simp only [Act.put, sA_, s0_, sS_]
      refine hs_ 17 rfl y0 ?_
      try simp only [Act.put, sA_, s0_, sS_]
      refine hs_ 18 rfl y0 ?_
      try simp only [Act.put, sA_, s0_, sS_]
      refine hs_ 19 rfl y0 ?_
      try simp only [Act.put, sA_, s0_, sS_]
      refine hs_ 20 rfl y0 ?_
      try simp only [Act.put, sA_, s0_, sS_]
      refine hs_ 21 rfl y0 ?_
      try simp only [Act.put, sA_, s0_, sS_]
      refine hs_ 22 rfl y0 ?_
      try simp only [Act.put, sA_, s0_, sS_]
      refine hs_ 23 rfl y0 ?_
      try simp only [Act.put, sA_, s0_, sS_]
      refine hs_ 24 rfl y0 ?_
      try simp only [Act.put, sA_, s0_, sS_]
      refine hs_ 25 rfl y0 ?_
      try simp only [Act.put, sA_, s0_, sS_]
      refine hs_ 26 rfl y0 ?_
      try simp only [Act.put, sA_, s0_, sS_]
      refine hs_ 27 rfl y0 ?_
      try simp only [Act.put, sA_, s0_, sS_]
      refine hr_ 28 (.bool false) rfl y0 (fun W hW => ?_) ?_
      · (clear hW; go_simp)
      try simp only [Act.put, sA_, s0_, sS_]
      refine wpAnyH_done (by kernel_rfl) ?_ _
      have HY := hid y0
      clear y0
      go_wp2
      go_roundw
      case rel => exact ⟨k + 1, by omega, by go_num, by
        rw [HFO.out, HK2.out]
        exact (HVZ.out.below HY.out).keep rfl fun q hq _ => ⟨⟨hq.1, by have := HZS.out; have := HY.out.size; omega⟩, rfl⟩, (HF.out.then_ext HXZ.out).then_ext HY.out⟩
      case measure => simp [intOf]; omega
    | true =>
      rw [hsn] at HSNP
      have HS := hid hsn
      clear hsn
      rcases HRES.out with ⟨rfl, hck, hfl⟩ | ⟨rfl, hno⟩
      · have HKE := hid (show rkeepS d ka f = if f = nameB q.i ∧ (ka.2 = false ∨ ka.1.i < q.i) then (q, true) else ka by
          unfold rkeepS
          rw [if_pos HS.out, ← HBT.out, ← hfl, readS_ok hck])
        obtain ⟨i1, i2⟩ := check_i hck
        have HNAM := hid (fun (W : World) => (show Calls Tryz.prog 75 #[.int .i64 q.i] W (fun e w' => e = .returned (.string ⟨(nameB q.i).toArray⟩) ∧ Ext W w') by
          obtain ⟨n, hn⟩ : ∃ n : Nat, q.i = (n : Int) := ⟨q.i.toNat, by omega⟩
          rw [hn]; exact RNm_any W (by omega)))
        obtain ⟨nm, hnme⟩ : ∃ nm, nm = nameB q.i := ⟨_, rfl⟩
        rw [← hnme] at HNAM HKE
        clear hck hfl hnme i1 i2
        by_cases hfn : f = nm
        · have hfb : (f == nm) = true := by simpa using hfn
          obtain ⟨va0, vn0, vc0, da0, dn0, dc0, hob0, -⟩ := HVZ.out
          have HOB0 := hid hob0
          clear hob0
          cases hkb : ka.2 with
          | false =>
            have HK2 := hid (HKE.out.trans (if_pos ⟨hfn, .inl hkb⟩))
            have HCLG := hid (fun (W : World) (hW : Ext wz W) => (cells6 ((hW.block g (Array.getElem?_eq_some_iff.1 HOB0.out).1).trans HOB0.out)).1)
            rw [hkb] at HCLG
            clear hkb hfn
            have y0 : Ext wz wz.drew := ext_drew wz
            refine wp_region_held_drew (S := fun W => Ext wz W) (by kernel_rfl) y0 (fun hH => ?_)
            obtain ⟨wd, hwd⟩ : ∃ wd, wd = wz.drew := ⟨_, rfl⟩
            rw [← hwd] at y0 ⊢
            clear hH hwd
            refine hr_ 0 (.string ⟨f.toArray⟩) rfl y0 (fun W hW => ?_) ?_
            · (clear hW; go_simp)
            try simp only [Act.put, sA_, s0_, sS_]
            refine hc_ 1 rfl (fun K hK => ?_)
            go_simp
            go_at_call 74
            refine Calls.mono (HSNP.out _) ?_
            rintro e wa ⟨rfl, rfl⟩
            have y1 := y0
            refine hK.out _ _ y1 (fun hH => ?_)
            clear hK K y0 hH
            have y0 := y1
            clear y1
            try simp only [Act.put, sA_, s0_, sS_]
            refine hr_ 2 (.bool true) rfl y0 (fun W hW => ?_) ?_
            · (clear hW; go_simp)
            try simp only [Act.put, sA_, s0_, sS_]
            refine hr_ 3 (.bool true) rfl y0 (fun W hW => ?_) ?_
            · (clear hW; go_simp)
            try simp only [Act.put, sA_, s0_, sS_]
            refine hr_ 4 (.bool true) rfl y0 (fun W hW => ?_) ?_
            · (clear hW; go_simp)
            try simp only [Act.put, sA_, s0_, sS_]
            refine hr_ 5 (.bool true) rfl y0 (fun W hW => ?_) ?_
            · (clear hW; go_simp)
            try simp only [Act.put, sA_, s0_, sS_]
            refine hr_ 6 (.string ⟨f.toArray⟩) rfl y0 (fun W hW => ?_) ?_
            · (clear hW; go_simp)
            try simp only [Act.put, sA_, s0_, sS_]
            refine hr_ 7 (.pointer (some ⟨z, 0, none⟩)) rfl y0 (fun W hW => ?_) ?_
            · (clear hW; go_simp)
            try simp only [Act.put, sA_, s0_, sS_]
            refine hr_ 8 (.int .i64 q.i) rfl y0 (fun W hW => ?_) ?_
            · (obtain ⟨q0, q1, q2, q3⟩ := HCLZ.out W hW; clear hW; go_simp)
            try simp only [Act.put, sA_, s0_, sS_]
            refine hc_ 9 rfl (fun K hK => ?_)
            rw [if_pos (by rfl)]
            go_simp
            go_at_call 75
            refine Calls.mono (HNAM.out _) ?_
            rintro e wc ⟨rfl, hxc⟩
            have y1 := y0.trans' hxc
            clear hxc
            refine hK.out _ _ y1 (fun hH => ?_)
            clear hK K y0 hH
            have y0 := y1
            clear y1
            try simp only [Act.put, sA_, s0_, sS_]
            refine hr_ 10 (.bool true) rfl y0 (fun W hW => ?_) ?_
            · (clear hW; go_simp)
            try simp only [Act.put, sA_, s0_, sS_]
            refine hr_ 11 (.bool true) rfl y0 (fun W hW => ?_) ?_
            · (clear hW; go_simp)
            try simp only [Act.put, sA_, s0_, sS_]
            refine hr_ 12 (.bool true) rfl y0 (fun W hW => ?_) ?_
            · (clear hW; go_simp)
            try simp only [Act.put, sA_, s0_, sS_]
            refine hr_ 13 (.pointer (some ⟨g, 0, none⟩)) rfl y0 (fun W hW => ?_) ?_
            · (clear hW; go_simp)
            try simp only [Act.put, sA_, s0_, sS_]
            refine hr_ 14 (.pointer (some ⟨g, 0, none⟩)) rfl y0 (fun W hW => ?_) ?_
            · (clear hW; go_simp)
            try simp only [Act.put, sA_, s0_, sS_]
            refine hr_ 15 (.pointer (some ⟨g, 5, none⟩)) rfl y0 (fun W hW => ?_) ?_
            · (clear hW; go_simp)
            try simp only [Act.put, sA_, s0_, sS_]
            refine hr_ 16 (.bool false) rfl y0 (fun W hW => ?_) ?_
            · (obtain ⟨q0, q1, q2, q3, q4, q5⟩ := HCLG.out W hW; clear hW; go_simp)
            try simp only [Act.put, sA_, s0_, sS_]
            refine hr_ 17 (.bool true) rfl y0 (fun W hW => ?_) ?_
            · (clear hW; go_simp)
            try simp only [Act.put, sA_, s0_, sS_]
            refine hr_ 18 (.bool true) rfl y0 (fun W hW => ?_) ?_
            · (clear hW; go_simp)
            try simp only [Act.put, sA_, s0_, sS_]
            refine hs_ 19 rfl y0 ?_
            try simp only [Act.put, sA_, s0_, sS_]
            refine hs_ 20 rfl y0 ?_
            try simp only [Act.put, sA_, s0_, sS_]
            refine hs_ 21 rfl y0 ?_
            try simp only [Act.put, sA_, s0_, sS_]
            refine hs_ 22 rfl y0 ?_
            try simp only [Act.put, sA_, s0_, sS_]
            refine hs_ 23 rfl y0 ?_
            try simp only [Act.put, sA_, s0_, sS_]
            refine hs_ 24 rfl y0 ?_
            try simp only [Act.put, sA_, s0_, sS_]
            refine hs_ 25 rfl y0 ?_
            try simp only [Act.put, sA_, s0_, sS_]
            refine hs_ 26 rfl y0 ?_
            try simp only [Act.put, sA_, s0_, sS_]
            refine hr_ 27 (.bool true) rfl y0 (fun W hW => ?_) ?_
            · (clear hW; go_simp)
            try simp only [Act.put, sA_, s0_, sS_]
            refine hr_ 28 (.bool true) rfl y0 (fun W hW => ?_) ?_
            · (clear hW; go_simp)
            try simp only [Act.put, sA_, s0_, sS_]
            refine wpAnyH_done (by kernel_rfl) ?_ _
            have HY := hid y0
            have hob := HVZ.out.below HY.out
            obtain ⟨va, vn, vc, da, dn, dc, hob, -⟩ := hob
            have HOB := hid hob
            obtain ⟨⟨g0, g1, g2, g3, g4, g5⟩, ⟨f0, f1, f2, f3, f4, f5⟩, hgl⟩ := cells6 hob
            obtain ⟨q0, q1, q2, q3⟩ := HCLZ.out _ HY.out
            clear hob y0
            go_wp2
            have hS := (((((SetG.start HOB.out).step 1 (.int .i64 q.i)).step 2 (.int .i64 q.t)).step 3 (.slice na nn nc)).step 4 (.slice ma mn mc)).step 5 (.bool true)
            generalize ((((wc.setCell ⟨g, 1, none⟩ (.int .i64 q.i)).setCell ⟨g, 2, none⟩ (.int .i64 q.t)).setCell ⟨g, 3, none⟩ (.slice na nn nc)).setCell ⟨g, 4, none⟩ (.slice ma mn mc)).setCell ⟨g, 5, none⟩ (.bool true) = w10 at *
            go_roundw
            case rel => exact ⟨k + 1, by omega, by go_num, by
              rw [HFO.out, HK2.out]
              refine ⟨na, nn, nc, ma, mn, mc, hS.obj, (HSZ.out.below HY.out).keep fun q hq hl => ⟨⟨hq.1, ?_⟩, hS.frm.block q hl (by have := HG4.out; show ¬ q = g; omega)⟩⟩
              have := HZS.out; have := HY.out.size; rw [hS.size]; omega, ((HF.out.then_ext HXZ.out).then_ext HY.out).trans hS.frm fun q hq => .inl hq⟩
            case measure => simp [intOf]; omega
          | true =>
            have HCLG := hid (fun (W : World) (hW : Ext wz W) => (cells6 ((hW.block g (Array.getElem?_eq_some_iff.1 HOB0.out).1).trans HOB0.out)).1)
            rw [hkb] at HCLG
            by_cases hil : ka.1.i < q.i
            · have HK2 := hid (HKE.out.trans (if_pos ⟨hfn, .inr hil⟩))
              clear hkb hfn
              have y0 : Ext wz wz.drew := ext_drew wz
              refine wp_region_held_drew (S := fun W => Ext wz W) (by kernel_rfl) y0 (fun hH => ?_)
              obtain ⟨wd, hwd⟩ : ∃ wd, wd = wz.drew := ⟨_, rfl⟩
              rw [← hwd] at y0 ⊢
              clear hH hwd
              refine hr_ 0 (.string ⟨f.toArray⟩) rfl y0 (fun W hW => ?_) ?_
              · (clear hW; go_simp)
              try simp only [Act.put, sA_, s0_, sS_]
              refine hc_ 1 rfl (fun K hK => ?_)
              go_simp
              go_at_call 74
              refine Calls.mono (HSNP.out _) ?_
              rintro e wa ⟨rfl, rfl⟩
              have y1 := y0
              refine hK.out _ _ y1 (fun hH => ?_)
              clear hK K y0 hH
              have y0 := y1
              clear y1
              try simp only [Act.put, sA_, s0_, sS_]
              refine hr_ 2 (.bool true) rfl y0 (fun W hW => ?_) ?_
              · (clear hW; go_simp)
              try simp only [Act.put, sA_, s0_, sS_]
              refine hr_ 3 (.bool true) rfl y0 (fun W hW => ?_) ?_
              · (clear hW; go_simp)
              try simp only [Act.put, sA_, s0_, sS_]
              refine hr_ 4 (.bool true) rfl y0 (fun W hW => ?_) ?_
              · (clear hW; go_simp)
              try simp only [Act.put, sA_, s0_, sS_]
              refine hr_ 5 (.bool true) rfl y0 (fun W hW => ?_) ?_
              · (clear hW; go_simp)
              try simp only [Act.put, sA_, s0_, sS_]
              refine hr_ 6 (.string ⟨f.toArray⟩) rfl y0 (fun W hW => ?_) ?_
              · (clear hW; go_simp)
              try simp only [Act.put, sA_, s0_, sS_]
              refine hr_ 7 (.pointer (some ⟨z, 0, none⟩)) rfl y0 (fun W hW => ?_) ?_
              · (clear hW; go_simp)
              try simp only [Act.put, sA_, s0_, sS_]
              refine hr_ 8 (.int .i64 q.i) rfl y0 (fun W hW => ?_) ?_
              · (obtain ⟨q0, q1, q2, q3⟩ := HCLZ.out W hW; clear hW; go_simp)
              try simp only [Act.put, sA_, s0_, sS_]
              refine hc_ 9 rfl (fun K hK => ?_)
              rw [if_pos (by rfl)]
              go_simp
              go_at_call 75
              refine Calls.mono (HNAM.out _) ?_
              rintro e wc ⟨rfl, hxc⟩
              have y1 := y0.trans' hxc
              clear hxc
              refine hK.out _ _ y1 (fun hH => ?_)
              clear hK K y0 hH
              have y0 := y1
              clear y1
              try simp only [Act.put, sA_, s0_, sS_]
              refine hr_ 10 (.bool true) rfl y0 (fun W hW => ?_) ?_
              · (clear hW; go_simp)
              try simp only [Act.put, sA_, s0_, sS_]
              refine hr_ 11 (.bool true) rfl y0 (fun W hW => ?_) ?_
              · (clear hW; go_simp)
              try simp only [Act.put, sA_, s0_, sS_]
              refine hr_ 12 (.bool true) rfl y0 (fun W hW => ?_) ?_
              · (clear hW; go_simp)
              try simp only [Act.put, sA_, s0_, sS_]
              refine hr_ 13 (.pointer (some ⟨g, 0, none⟩)) rfl y0 (fun W hW => ?_) ?_
              · (clear hW; go_simp)
              try simp only [Act.put, sA_, s0_, sS_]
              refine hr_ 14 (.pointer (some ⟨g, 0, none⟩)) rfl y0 (fun W hW => ?_) ?_
              · (clear hW; go_simp)
              try simp only [Act.put, sA_, s0_, sS_]
              refine hr_ 15 (.pointer (some ⟨g, 5, none⟩)) rfl y0 (fun W hW => ?_) ?_
              · (clear hW; go_simp)
              try simp only [Act.put, sA_, s0_, sS_]
              refine hr_ 16 (.bool true) rfl y0 (fun W hW => ?_) ?_
              · (obtain ⟨q0, q1, q2, q3, q4, q5⟩ := HCLG.out W hW; clear hW; go_simp)
              try simp only [Act.put, sA_, s0_, sS_]
              refine hr_ 17 (.bool false) rfl y0 (fun W hW => ?_) ?_
              · (clear hW; go_simp)
              try simp only [Act.put, sA_, s0_, sS_]
              refine hr_ 18 (.bool false) rfl y0 (fun W hW => ?_) ?_
              · (clear hW; go_simp)
              try simp only [Act.put, sA_, s0_, sS_]
              refine hr_ 19 (.pointer (some ⟨z, 0, none⟩)) rfl y0 (fun W hW => ?_) ?_
              · (clear hW; go_simp)
              try simp only [Act.put, sA_, s0_, sS_]
              refine hr_ 20 (.int .i64 q.i) rfl y0 (fun W hW => ?_) ?_
              · (obtain ⟨q0, q1, q2, q3⟩ := HCLZ.out W hW; clear hW; go_simp)
              try simp only [Act.put, sA_, s0_, sS_]
              refine hr_ 21 (.pointer (some ⟨g, 0, none⟩)) rfl y0 (fun W hW => ?_) ?_
              · (clear hW; go_simp)
              try simp only [Act.put, sA_, s0_, sS_]
              refine hr_ 22 (.pointer (some ⟨g, 0, none⟩)) rfl y0 (fun W hW => ?_) ?_
              · (clear hW; go_simp)
              try simp only [Act.put, sA_, s0_, sS_]
              refine hr_ 23 (.pointer (some ⟨g, 1, none⟩)) rfl y0 (fun W hW => ?_) ?_
              · (clear hW; go_simp)
              try simp only [Act.put, sA_, s0_, sS_]
              refine hr_ 24 (.pointer (some ⟨g, 1, none⟩)) rfl y0 (fun W hW => ?_) ?_
              · (clear hW; go_simp)
              try simp only [Act.put, sA_, s0_, sS_]
              refine hr_ 25 (.int .i64 ka.1.i) rfl y0 (fun W hW => ?_) ?_
              · (obtain ⟨q0, q1, q2, q3, q4, q5⟩ := HCLG.out W hW; clear hW; go_simp)
              try simp only [Act.put, sA_, s0_, sS_]
              refine hr_ 26 (.bool true) rfl y0 (fun W hW => ?_) ?_
              · (clear hW; go_simp)
              try simp only [Act.put, sA_, s0_, sS_]
              refine hr_ 27 (.bool true) rfl y0 (fun W hW => ?_) ?_
              · (clear hW; go_simp)
              try simp only [Act.put, sA_, s0_, sS_]
              refine hr_ 28 (.bool true) rfl y0 (fun W hW => ?_) ?_
              · (clear hW; go_simp)
              try simp only [Act.put, sA_, s0_, sS_]
              refine wpAnyH_done (by kernel_rfl) ?_ _
              have HY := hid y0
              have hob := HVZ.out.below HY.out
              obtain ⟨va, vn, vc, da, dn, dc, hob, -⟩ := hob
              have HOB := hid hob
              obtain ⟨⟨g0, g1, g2, g3, g4, g5⟩, ⟨f0, f1, f2, f3, f4, f5⟩, hgl⟩ := cells6 hob
              obtain ⟨q0, q1, q2, q3⟩ := HCLZ.out _ HY.out
              clear hob y0
              go_wp2
              have hS := (((((SetG.start HOB.out).step 1 (.int .i64 q.i)).step 2 (.int .i64 q.t)).step 3 (.slice na nn nc)).step 4 (.slice ma mn mc)).step 5 (.bool true)
              generalize ((((wc.setCell ⟨g, 1, none⟩ (.int .i64 q.i)).setCell ⟨g, 2, none⟩ (.int .i64 q.t)).setCell ⟨g, 3, none⟩ (.slice na nn nc)).setCell ⟨g, 4, none⟩ (.slice ma mn mc)).setCell ⟨g, 5, none⟩ (.bool true) = w10 at *
              go_roundw
              case rel => exact ⟨k + 1, by omega, by go_num, by
                rw [HFO.out, HK2.out]
                refine ⟨na, nn, nc, ma, mn, mc, hS.obj, (HSZ.out.below HY.out).keep fun q hq hl => ⟨⟨hq.1, ?_⟩, hS.frm.block q hl (by have := HG4.out; show ¬ q = g; omega)⟩⟩
                have := HZS.out; have := HY.out.size; rw [hS.size]; omega, ((HF.out.then_ext HXZ.out).then_ext HY.out).trans hS.frm fun q hq => .inl hq⟩
              case measure => simp [intOf]; omega
            have HK2 := hid (HKE.out.trans (if_neg (fun h => by rcases h.2 with h | h; rw [hkb] at h; cases h; exact hil h)))
            clear hkb hfn
            have y0 : Ext wz wz.drew := ext_drew wz
            refine wp_region_held_drew (S := fun W => Ext wz W) (by kernel_rfl) y0 (fun hH => ?_)
            obtain ⟨wd, hwd⟩ : ∃ wd, wd = wz.drew := ⟨_, rfl⟩
            rw [← hwd] at y0 ⊢
            clear hH hwd
            refine hr_ 0 (.string ⟨f.toArray⟩) rfl y0 (fun W hW => ?_) ?_
            · (clear hW; go_simp)
            try simp only [Act.put, sA_, s0_, sS_]
            refine hc_ 1 rfl (fun K hK => ?_)
            go_simp
            go_at_call 74
            refine Calls.mono (HSNP.out _) ?_
            rintro e wa ⟨rfl, rfl⟩
            have y1 := y0
            refine hK.out _ _ y1 (fun hH => ?_)
            clear hK K y0 hH
            have y0 := y1
            clear y1
            try simp only [Act.put, sA_, s0_, sS_]
            refine hr_ 2 (.bool true) rfl y0 (fun W hW => ?_) ?_
            · (clear hW; go_simp)
            try simp only [Act.put, sA_, s0_, sS_]
            refine hr_ 3 (.bool true) rfl y0 (fun W hW => ?_) ?_
            · (clear hW; go_simp)
            try simp only [Act.put, sA_, s0_, sS_]
            refine hr_ 4 (.bool true) rfl y0 (fun W hW => ?_) ?_
            · (clear hW; go_simp)
            try simp only [Act.put, sA_, s0_, sS_]
            refine hr_ 5 (.bool true) rfl y0 (fun W hW => ?_) ?_
            · (clear hW; go_simp)
            try simp only [Act.put, sA_, s0_, sS_]
            refine hr_ 6 (.string ⟨f.toArray⟩) rfl y0 (fun W hW => ?_) ?_
            · (clear hW; go_simp)
            try simp only [Act.put, sA_, s0_, sS_]
            refine hr_ 7 (.pointer (some ⟨z, 0, none⟩)) rfl y0 (fun W hW => ?_) ?_
            · (clear hW; go_simp)
            try simp only [Act.put, sA_, s0_, sS_]
            refine hr_ 8 (.int .i64 q.i) rfl y0 (fun W hW => ?_) ?_
            · (obtain ⟨q0, q1, q2, q3⟩ := HCLZ.out W hW; clear hW; go_simp)
            try simp only [Act.put, sA_, s0_, sS_]
            refine hc_ 9 rfl (fun K hK => ?_)
            rw [if_pos (by rfl)]
            go_simp
            go_at_call 75
            refine Calls.mono (HNAM.out _) ?_
            rintro e wc ⟨rfl, hxc⟩
            have y1 := y0.trans' hxc
            clear hxc
            refine hK.out _ _ y1 (fun hH => ?_)
            clear hK K y0 hH
            have y0 := y1
            clear y1
            try simp only [Act.put, sA_, s0_, sS_]
            refine hr_ 10 (.bool true) rfl y0 (fun W hW => ?_) ?_
            · (clear hW; go_simp)
            try simp only [Act.put, sA_, s0_, sS_]
            refine hr_ 11 (.bool true) rfl y0 (fun W hW => ?_) ?_
            · (clear hW; go_simp)
            try simp only [Act.put, sA_, s0_, sS_]
            refine hr_ 12 (.bool true) rfl y0 (fun W hW => ?_) ?_
            · (clear hW; go_simp)
            try simp only [Act.put, sA_, s0_, sS_]
            refine hr_ 13 (.pointer (some ⟨g, 0, none⟩)) rfl y0 (fun W hW => ?_) ?_
            · (clear hW; go_simp)
            try simp only [Act.put, sA_, s0_, sS_]
            refine hr_ 14 (.pointer (some ⟨g, 0, none⟩)) rfl y0 (fun W hW => ?_) ?_
            · (clear hW; go_simp)
            try simp only [Act.put, sA_, s0_, sS_]
            refine hr_ 15 (.pointer (some ⟨g, 5, none⟩)) rfl y0 (fun W hW => ?_) ?_
            · (clear hW; go_simp)
            try simp only [Act.put, sA_, s0_, sS_]
            refine hr_ 16 (.bool true) rfl y0 (fun W hW => ?_) ?_
            · (obtain ⟨q0, q1, q2, q3, q4, q5⟩ := HCLG.out W hW; clear hW; go_simp)
            try simp only [Act.put, sA_, s0_, sS_]
            refine hr_ 17 (.bool false) rfl y0 (fun W hW => ?_) ?_
            · (clear hW; go_simp)
            try simp only [Act.put, sA_, s0_, sS_]
            refine hr_ 18 (.bool false) rfl y0 (fun W hW => ?_) ?_
            · (clear hW; go_simp)
            try simp only [Act.put, sA_, s0_, sS_]
            refine hr_ 19 (.pointer (some ⟨z, 0, none⟩)) rfl y0 (fun W hW => ?_) ?_
            · (clear hW; go_simp)
            try simp only [Act.put, sA_, s0_, sS_]
            refine hr_ 20 (.int .i64 q.i) rfl y0 (fun W hW => ?_) ?_
            · (obtain ⟨q0, q1, q2, q3⟩ := HCLZ.out W hW; clear hW; go_simp)
            try simp only [Act.put, sA_, s0_, sS_]
            refine hr_ 21 (.pointer (some ⟨g, 0, none⟩)) rfl y0 (fun W hW => ?_) ?_
            · (clear hW; go_simp)
            try simp only [Act.put, sA_, s0_, sS_]
            refine hr_ 22 (.pointer (some ⟨g, 0, none⟩)) rfl y0 (fun W hW => ?_) ?_
            · (clear hW; go_simp)
            try simp only [Act.put, sA_, s0_, sS_]
            refine hr_ 23 (.pointer (some ⟨g, 1, none⟩)) rfl y0 (fun W hW => ?_) ?_
            · (clear hW; go_simp)
            try simp only [Act.put, sA_, s0_, sS_]
            refine hr_ 24 (.pointer (some ⟨g, 1, none⟩)) rfl y0 (fun W hW => ?_) ?_
            · (clear hW; go_simp)
            try simp only [Act.put, sA_, s0_, sS_]
            refine hr_ 25 (.int .i64 ka.1.i) rfl y0 (fun W hW => ?_) ?_
            · (obtain ⟨q0, q1, q2, q3, q4, q5⟩ := HCLG.out W hW; clear hW; go_simp)
            try simp only [Act.put, sA_, s0_, sS_]
            refine hr_ 26 (.bool false) rfl y0 (fun W hW => ?_) ?_
            · (clear hW; go_simp)
            try simp only [Act.put, sA_, s0_, sS_]
            refine hr_ 27 (.bool false) rfl y0 (fun W hW => ?_) ?_
            · (clear hW; go_simp)
            try simp only [Act.put, sA_, s0_, sS_]
            refine hr_ 28 (.bool false) rfl y0 (fun W hW => ?_) ?_
            · (clear hW; go_simp)
            try simp only [Act.put, sA_, s0_, sS_]
            refine wpAnyH_done (by kernel_rfl) ?_ _
            have HY := hid y0
            clear y0
            go_wp2
            go_roundw
            case rel => exact ⟨k + 1, by omega, by go_num, by
              rw [HFO.out, HK2.out]
              exact (HVZ.out.below HY.out).keep rfl fun q hq _ => ⟨⟨hq.1, by have := HZS.out; have := HY.out.size; omega⟩, rfl⟩, (HF.out.then_ext HXZ.out).then_ext HY.out⟩
            case measure => simp [intOf]; omega
        have HK2 := hid (HKE.out.trans (if_neg (fun h => hfn h.1)))
        have hfb : (f == nm) = false := by simpa using hfn
        have y0 : Ext wz wz.drew := ext_drew wz
        refine wp_region_held_drew (S := fun W => Ext wz W) (by kernel_rfl) y0 (fun hH => ?_)
        obtain ⟨wd, hwd⟩ : ∃ wd, wd = wz.drew := ⟨_, rfl⟩
        rw [← hwd] at y0 ⊢
        clear hH hwd
        refine hr_ 0 (.string ⟨f.toArray⟩) rfl y0 (fun W hW => ?_) ?_
        · (clear hW; go_simp)
        try simp only [Act.put, sA_, s0_, sS_]
        refine hc_ 1 rfl (fun K hK => ?_)
        go_simp
        go_at_call 74
        refine Calls.mono (HSNP.out _) ?_
        rintro e wa ⟨rfl, rfl⟩
        have y1 := y0
        refine hK.out _ _ y1 (fun hH => ?_)
        clear hK K y0 hH
        have y0 := y1
        clear y1
        try simp only [Act.put, sA_, s0_, sS_]
        refine hr_ 2 (.bool true) rfl y0 (fun W hW => ?_) ?_
        · (clear hW; go_simp)
        try simp only [Act.put, sA_, s0_, sS_]
        refine hr_ 3 (.bool true) rfl y0 (fun W hW => ?_) ?_
        · (clear hW; go_simp)
        try simp only [Act.put, sA_, s0_, sS_]
        refine hr_ 4 (.bool true) rfl y0 (fun W hW => ?_) ?_
        · (clear hW; go_simp)
        try simp only [Act.put, sA_, s0_, sS_]
        refine hr_ 5 (.bool true) rfl y0 (fun W hW => ?_) ?_
        · (clear hW; go_simp)
        try simp only [Act.put, sA_, s0_, sS_]
        refine hr_ 6 (.string ⟨f.toArray⟩) rfl y0 (fun W hW => ?_) ?_
        · (clear hW; go_simp)
        try simp only [Act.put, sA_, s0_, sS_]
        refine hr_ 7 (.pointer (some ⟨z, 0, none⟩)) rfl y0 (fun W hW => ?_) ?_
        · (clear hW; go_simp)
        try simp only [Act.put, sA_, s0_, sS_]
        refine hr_ 8 (.int .i64 q.i) rfl y0 (fun W hW => ?_) ?_
        · (obtain ⟨q0, q1, q2, q3⟩ := HCLZ.out W hW; clear hW; go_simp)
        try simp only [Act.put, sA_, s0_, sS_]
        refine hc_ 9 rfl (fun K hK => ?_)
        rw [if_pos (by rfl)]
        go_simp
        go_at_call 75
        refine Calls.mono (HNAM.out _) ?_
        rintro e wc ⟨rfl, hxc⟩
        have y1 := y0.trans' hxc
        clear hxc
        refine hK.out _ _ y1 (fun hH => ?_)
        clear hK K y0 hH
        have y0 := y1
        clear y1
        try simp only [Act.put, sA_, s0_, sS_]
        refine hr_ 10 (.bool false) rfl y0 (fun W hW => ?_) ?_
        · (clear hW; go_simp)
        try simp only [Act.put, sA_, s0_, sS_]
        refine hr_ 11 (.bool false) rfl y0 (fun W hW => ?_) ?_
        · (clear hW; go_simp)
        try simp only [Act.put, sA_, s0_, sS_]
        refine hr_ 12 (.bool false) rfl y0 (fun W hW => ?_) ?_
        · (clear hW; go_simp)
        try simp only [Act.put, sA_, s0_, sS_]
        refine hs_ 13 rfl y0 ?_
        try simp only [Act.put, sA_, s0_, sS_]
        refine hs_ 14 rfl y0 ?_
        try simp only [Act.put, sA_, s0_, sS_]
        refine hs_ 15 rfl y0 ?_
        try simp only [Act.put, sA_, s0_, sS_]
        refine hs_ 16 rfl y0 ?_
        try simp only [Act.put, sA_, s0_, sS_]
        refine hs_ 17 rfl y0 ?_
        try simp only [Act.put, sA_, s0_, sS_]
        refine hs_ 18 rfl y0 ?_
        try simp only [Act.put, sA_, s0_, sS_]
        refine hs_ 19 rfl y0 ?_
        try simp only [Act.put, sA_, s0_, sS_]
        refine hs_ 20 rfl y0 ?_
        try simp only [Act.put, sA_, s0_, sS_]
        refine hs_ 21 rfl y0 ?_
        try simp only [Act.put, sA_, s0_, sS_]
        refine hs_ 22 rfl y0 ?_
        try simp only [Act.put, sA_, s0_, sS_]
        refine hs_ 23 rfl y0 ?_
        try simp only [Act.put, sA_, s0_, sS_]
        refine hs_ 24 rfl y0 ?_
        try simp only [Act.put, sA_, s0_, sS_]
        refine hs_ 25 rfl y0 ?_
        try simp only [Act.put, sA_, s0_, sS_]
        refine hs_ 26 rfl y0 ?_
        try simp only [Act.put, sA_, s0_, sS_]
        refine hs_ 27 rfl y0 ?_
        try simp only [Act.put, sA_, s0_, sS_]
        refine hr_ 28 (.bool false) rfl y0 (fun W hW => ?_) ?_
        · (clear hW; go_simp)
        try simp only [Act.put, sA_, s0_, sS_]
        refine wpAnyH_done (by kernel_rfl) ?_ _
        have HY := hid y0
        clear y0
        go_wp2
        go_roundw
        case rel => exact ⟨k + 1, by omega, by go_num, by
          rw [HFO.out, HK2.out]
          exact (HVZ.out.below HY.out).keep rfl fun q hq _ => ⟨⟨hq.1, by have := HZS.out; have := HY.out.size; omega⟩, rfl⟩, (HF.out.then_ext HXZ.out).then_ext HY.out⟩
        case measure => simp [intOf]; omega
      have HK2 := hid (show rkeepS d ka f = ka by
        unfold rkeepS
        rw [if_pos HS.out, ← HBT.out, readS_no hno])
      clear hno
      have y0 : Ext wz wz.drew := ext_drew wz
      refine wp_region_held_drew (S := fun W => Ext wz W) (by kernel_rfl) y0 (fun hH => ?_)
      obtain ⟨wd, hwd⟩ : ∃ wd, wd = wz.drew := ⟨_, rfl⟩
      rw [← hwd] at y0 ⊢
      clear hH hwd
      refine hr_ 0 (.string ⟨f.toArray⟩) rfl y0 (fun W hW => ?_) ?_
      · (clear hW; go_simp)
      try simp only [Act.put, sA_, s0_, sS_]
      refine hc_ 1 rfl (fun K hK => ?_)
      go_simp
      go_at_call 74
      refine Calls.mono (HSNP.out _) ?_
      rintro e wa ⟨rfl, rfl⟩
      have y1 := y0
      refine hK.out _ _ y1 (fun hH => ?_)
      clear hK K y0 hH
      have y0 := y1
      clear y1
      try simp only [Act.put, sA_, s0_, sS_]
      refine hr_ 2 (.bool true) rfl y0 (fun W hW => ?_) ?_
      · (clear hW; go_simp)
      try simp only [Act.put, sA_, s0_, sS_]
      refine hr_ 3 (.bool false) rfl y0 (fun W hW => ?_) ?_
      · (clear hW; go_simp)
      try simp only [Act.put, sA_, s0_, sS_]
      refine hr_ 4 (.bool false) rfl y0 (fun W hW => ?_) ?_
      · (clear hW; go_simp)
      try simp only [Act.put, sA_, s0_, sS_]
      refine hr_ 5 (.bool false) rfl y0 (fun W hW => ?_) ?_
      · (clear hW; go_simp)
      try simp only [Act.put, sA_, s0_, sS_]
      refine hs_ 6 rfl y0 ?_
      try simp only [Act.put, sA_, s0_, sS_]
      refine hs_ 7 rfl y0 ?_
      try simp only [Act.put, sA_, s0_, sS_]
      refine hs_ 8 rfl y0 ?_
      try simp only [Act.put, sA_, s0_, sS_]
      refine hs_ 9 rfl y0 ?_
      try simp only [Act.put, sA_, s0_, sS_]
      refine hs_ 10 rfl y0 ?_
      try simp only [Act.put, sA_, s0_, sS_]
      refine hr_ 11 (.bool false) rfl y0 (fun W hW => ?_) ?_
      · (clear hW; go_simp)
      try simp only [Act.put, sA_, s0_, sS_]
      refine hr_ 12 (.bool false) rfl y0 (fun W hW => ?_) ?_
      · (clear hW; go_simp)
      try simp only [Act.put, sA_, s0_, sS_]
      refine hs_ 13 rfl y0 ?_
      try simp only [Act.put, sA_, s0_, sS_]
      refine hs_ 14 rfl y0 ?_
      try simp only [Act.put, sA_, s0_, sS_]
      refine hs_ 15 rfl y0 ?_
      try simp only [Act.put, sA_, s0_, sS_]
      refine hs_ 16 rfl y0 ?_
      try simp only [Act.put, sA_, s0_, sS_]
      refine hs_ 17 rfl y0 ?_
      try simp only [Act.put, sA_, s0_, sS_]
      refine hs_ 18 rfl y0 ?_
      try simp only [Act.put, sA_, s0_, sS_]
      refine hs_ 19 rfl y0 ?_
      try simp only [Act.put, sA_, s0_, sS_]
      refine hs_ 20 rfl y0 ?_
      try simp only [Act.put, sA_, s0_, sS_]
      refine hs_ 21 rfl y0 ?_
      try simp only [Act.put, sA_, s0_, sS_]
      refine hs_ 22 rfl y0 ?_
      try simp only [Act.put, sA_, s0_, sS_]
      refine hs_ 23 rfl y0 ?_
      try simp only [Act.put, sA_, s0_, sS_]
      refine hs_ 24 rfl y0 ?_
      try simp only [Act.put, sA_, s0_, sS_]
      refine hs_ 25 rfl y0 ?_
      try simp only [Act.put, sA_, s0_, sS_]
      refine hs_ 26 rfl y0 ?_
      try simp only [Act.put, sA_, s0_, sS_]
      refine hs_ 27 rfl y0 ?_
      try simp only [Act.put, sA_, s0_, sS_]
      refine hr_ 28 (.bool false) rfl y0 (fun W hW => ?_) ?_
      · (clear hW; go_simp)
      try simp only [Act.put, sA_, s0_, sS_]
      refine wpAnyH_done (by kernel_rfl) ?_ _
      have HY := hid y0
      clear y0
      go_wp2
      go_roundw
      case rel => exact ⟨k + 1, by omega, by go_num, by
        rw [HFO.out, HK2.out]
        exact (HVZ.out.below HY.out).keep rfl fun q hq _ => ⟨⟨hq.1, by have := HZS.out; have := HY.out.size; omega⟩, rfl⟩, (HF.out.then_ext HXZ.out).then_ext HY.out⟩
      case measure => simp [intOf]; omega
  have hkL : k = L.length := by omega
  have HKV := hid (show RVaO (fun q => w4.heap.size ≤ q ∧ q < wr.heap.size) wr g ks.1 ks.2 dg by
    rw [HKS.out]
    have h1 := HV.out
    rw [hkL, List.take_of_length_le (Nat.le_refl _)] at h1
    exact h1)
  clear HV hkL HCELL hrc HV4
  generalize wr = wy at *
  go_wp2_with fail
  refine Calls.mono (HLP.out wy HDr.out) ?_
  rintro e w6 ⟨v2, rfl, hrow, hx6⟩
  obtain ⟨rb2, rc2, rfl, hrc2, hcell⟩ := row_str hrow
  have HCELL := hid hcell
  have HX6 := hid hx6
  have HD6 := hid (HDr.out.below hx6)
  have HZW := hid (show w.heap.size ≤ wy.heap.size by have := HX4.out.size; have := HF.out.size; omega)
  clear hrow hcell hx6
  go_wp2
  go_loopw [12, 13, 76] (fun _ _ z wr => ∃ (k : Nat) (dk : DS), k ≤ L.length ∧ z = .int .i64 (k : Int) ∧ Hid (RDk (grow D w6 wr) wr dg dk) ∧ Hid (Frm D w6 wr) ∧ Hid (dk.Ok) ∧ Hid (dk.acts.length ≤ d.acts.length + k) ∧ Hid (dropsS ks L d = dropsS ks (L.drop k) dk)) (fun _ _ z _ => L.length - (intOf z).toNat)
  case atStart => exact ⟨0, d, Nat.zero_le _, rfl, HD6.out.more (fun q hq => .inl hq) (grow.lt HD6.out.lt (Nat.le_refl _)), Frm.refl _ _, HOK.out, Nat.le_refl _, rfl⟩
  obtain ⟨k2, dk, hk2, rfl, HDk, HFk, HOk, HAk, HLk⟩ := hrel
  by_cases hlt : k2 < L.length
  · obtain ⟨rb, hra, hrB, hrl, hcw⟩ := HCELL.out k2 hlt
    subst hra
    have hcr := (HFk.out.cell (p := ⟨rb, k2, none⟩) hrl (fun h => by have h1 := HDL.out _ h; have h2 := HZW.out; have h3 : wy.heap.size ≤ rb := hrB; simp at h1; omega)).trans hcw
    have hdr : L.drop k2 = L[k2] :: L.drop (k2 + 1) := List.drop_eq_getElem_cons hlt
    have hfm := HNM.out L[k2] (List.getElem_mem _)
    obtain ⟨f, hf⟩ : ∃ f, f = L[k2] := ⟨_, rfl⟩
    rw [← hf] at hcr hdr hfm
    have hLk := HLk.out
    rw [hdr] at hLk
    have HLK := hid hLk
    have HFM := hid hfm
    have HSNP := hid (fun W => RSn_any W f (by have := HFM.out; unfold maxLen; omega))
    have hvr := (HKV.out.below HX6.out).keep (w' := wr) (G := fun _ => True) (HFk.out.block g (by have := HG4.out; have := HF.out.size; have := HX6.out.size; omega) fun h => by have := HDL.out g h; have := HGW.out; omega) (fun q hq h2 => ⟨trivial, HFk.out.block q h2 fun h => by have := HDL.out q h; have h3 := hq.1; have := HX4.out.size; omega⟩)
    obtain ⟨va, vn, vc, da, dn, dc, hob, -⟩ := hvr
    have HOB0 := hid hob
    obtain ⟨⟨g0, g1, g2, g3, g4, g5⟩, -, hgl⟩ := cells6 hob
    have hac2 := DS.drop_acts dk f
    have hok2 := HOk.out.drop f
    have hdp := fun W (hW : Ext wr W) => RDrop_any (HDk.out.below hW) HOk.out (by have := HAk.out; have := HC.out; omega) f (by have := HFM.out; unfold maxLen; omega)
    have HDP := hid hdp
    obtain ⟨r, hr⟩ : ∃ r, r = dk.drop f := ⟨_, rfl⟩
    rw [← hr] at hac2 hok2 HDP
    have HR := hid hr
    have HAC2 := hid (show r.2.acts.length ≤ d.acts.length + (k2 + 1) by have := HAk.out; omega)
    have HOK2 := hid hok2
    obtain ⟨r1, r2⟩ := r
    dsimp only at HAC2 HOK2
    clear hcw hrB hrl hf hdr hLk hob hac2 hok2 hr hdp hfm g0 g2 g3 g4
    cases hsn : isSnap f with
    | false =>
      rw [hsn] at HSNP
      have HL2 := hid (HLK.out.trans (dropsS_stay (by unfold goesS; rw [hsn]; rfl)))
      clear hsn
      go_wp2_with fail
      refine Calls.mono (HSNP.out _) ?_
      rintro e w5 ⟨rfl, rfl⟩
      have hN := RPost.next (D := D) (w := w6) HDk.out HFk.out (Below.refl _ _) (RPost.same (HDk.out.below (Below.refl _ _)) (Below.refl _ _) 0)
      have HN := hid hN
      clear hN
      go_wp2
      go_roundw
      case rel => exact ⟨k2 + 1, dk, by omega, by go_num, HN.out.2.1, HN.out.2.2, HOk.out, by have := HAk.out; exact hid (by omega), HL2.out⟩
      case measure => simp [intOf]; omega
    | true =>
      rw [hsn] at HSNP
      have HS := hid hsn
      clear hsn
      cases hkb : ks.2 with
      | false =>
        rw [hkb] at g5
        have HL2 := hid (HLK.out.trans (dropsS_go (by unfold goesS; rw [HS.out, hkb]; rfl)))
        rw [← HR.out] at HL2
        clear hkb
        go_wp2_with fail
        refine Calls.mono (HSNP.out _) ?_
        rintro e w5 ⟨rfl, rfl⟩
        go_wp2_with fail
        refine Calls.mono (HDP.out _ (Below.refl _ _)) ?_
        rintro e w8 hE
        have hN := RPost.next HDk.out HFk.out (Below.refl _ _) hE
        obtain ⟨rfl, -, -⟩ := hE
        have HN := hid hN
        clear hN
        by_cases hr1 : r1 = 0
        · subst hr1
          have HL3 := hid (HL2.out.trans (if_neg (by simp)))
          go_wp2
          go_roundw
          case rel => exact ⟨k2 + 1, r2, by omega, by go_num, HN.out.2.1, HN.out.2.2, HOK2.out, HAC2.out, HL3.out⟩
          case measure => simp [intOf]; omega
        have hb : (r1 != 0) = true := by simpa using hr1
        have HR1 := hid hr1
        have HL3 := hid (HL2.out.trans (if_pos hr1))
        have HOP := hid (show openS d = (r1, r2) by rw [HOPEN.out, HL3.out, if_pos hr1])
        have HDN := hid (ropen_done HX4.out HGW.out HG4.out HDL.out HF.out HKV.out HX6.out HN.out.2.1 HN.out.2.2)
        clear hr1
        go_wp2
        go_ret2
        rw [HOP.out]
        exact .inl ⟨HR1.out, rfl, HDN.out.2.1, HDN.out.2.2⟩
      | true =>
        rw [hkb] at g5
        have HKB := hid hkb
        obtain ⟨i1, i2⟩ := check_i (HKO.out hkb)
        have HNAM := hid (fun (W : World) => (show Calls Tryz.prog 75 #[.int .i64 ks.1.i] W (fun e w' => e = .returned (.string ⟨(nameB ks.1.i).toArray⟩) ∧ Ext W w') by
          obtain ⟨n, hn⟩ : ∃ n : Nat, ks.1.i = (n : Int) := ⟨ks.1.i.toNat, by omega⟩
          rw [hn]; exact RNm_any W (by omega)))
        obtain ⟨nm, hnme⟩ : ∃ nm, nm = nameB ks.1.i := ⟨_, rfl⟩
        rw [← hnme] at HNAM
        have HNE := hid hnme
        clear i1 i2 hnme hkb
        by_cases hfn : f = nm
        · have HL2 := hid (HLK.out.trans (dropsS_stay (by unfold goesS; rw [HS.out, hfn, HNE.out, HKB.out]; simp)))
          have hfb : (f == nm) = true := by simpa using hfn
          clear hfn
          go_wp2_with fail
          refine Calls.mono (HSNP.out _) ?_
          rintro e w5 ⟨rfl, rfl⟩
          go_wp2_with fail
          refine Calls.mono (HNAM.out _) ?_
          rintro e w7 ⟨rfl, hx7⟩
          have HX7 := hid hx7
          clear hx7
          have hN := RPost.next (D := D) (w := w6) HDk.out HFk.out HX7.out (RPost.same (HDk.out.below HX7.out) (Below.refl _ _) 0)
          have HN := hid hN
          clear hN
          go_wp2
          go_roundw
          case rel => exact ⟨k2 + 1, dk, by omega, by go_num, HN.out.2.1, HN.out.2.2, HOk.out, by have := HAk.out; exact hid (by omega), HL2.out⟩
          case measure => simp [intOf]; omega
        have HL2 := hid (HLK.out.trans (dropsS_go (by unfold goesS; rw [HS.out, ← HNE.out]; simp [hfn])))
        have hfb : (f == nm) = false := by simpa using hfn
        rw [← HR.out] at HL2
        go_wp2_with fail
        refine Calls.mono (HSNP.out _) ?_
        rintro e w5 ⟨rfl, rfl⟩
        go_wp2_with fail
        refine Calls.mono (HNAM.out _) ?_
        rintro e w7 ⟨rfl, hx7⟩
        have HX7 := hid hx7
        clear hx7
        go_wp2_with fail
        refine Calls.mono (HDP.out w7 HX7.out) ?_
        rintro e w8 hE
        have hN := RPost.next HDk.out HFk.out HX7.out hE
        obtain ⟨rfl, -, -⟩ := hE
        have HN := hid hN
        clear hN
        by_cases hr1 : r1 = 0
        · subst hr1
          have HL3 := hid (HL2.out.trans (if_neg (by simp)))
          go_wp2
          go_roundw
          case rel => exact ⟨k2 + 1, r2, by omega, by go_num, HN.out.2.1, HN.out.2.2, HOK2.out, HAC2.out, HL3.out⟩
          case measure => simp [intOf]; omega
        have hb : (r1 != 0) = true := by simpa using hr1
        have HR1 := hid hr1
        have HL3 := hid (HL2.out.trans (if_pos hr1))
        have HOP := hid (show openS d = (r1, r2) by rw [HOPEN.out, HL3.out, if_pos hr1])
        have HDN := hid (ropen_done HX4.out HGW.out HG4.out HDL.out HF.out HKV.out HX6.out HN.out.2.1 HN.out.2.2)
        clear hr1
        go_wp2
        go_ret2
        rw [HOP.out]
        exact .inl ⟨HR1.out, rfl, HDN.out.2.1, HDN.out.2.2⟩
  have hkL : k2 = L.length := by omega
  have HL2 := hid (show dropsS ks L d = (0, dk) by rw [HLk.out, hkL, List.drop_of_length_le (Nat.le_refl _)]; rfl)
  have HOP := hid (show openS d = dk.sync by rw [HOPEN.out, HL2.out, if_neg (by simp)])
  have HSY := hid (RSync_any HDk.out HOk.out (by have := HAk.out; have := HC.out; omega))
  obtain ⟨r, hr⟩ : ∃ r, r = dk.sync := ⟨_, rfl⟩
  rw [← hr] at HSY HOP
  obtain ⟨r1, r2⟩ := r
  clear hkL hr HLk
  go_wp2_with fail
  refine Calls.mono HSY.out ?_
  rintro e w9 hE
  have hN := RPost.next HDk.out HFk.out (Below.refl _ _) hE
  obtain ⟨rfl, -, -⟩ := hE
  have HDN := hid (ropen_done HX4.out HGW.out HG4.out HDL.out HF.out HKV.out HX6.out hN.2.1 hN.2.2)
  clear hN
  by_cases hr1 : r1 = 0
  · subst hr1
    go_wp2
    go_ret2
    rw [HOP.out]
    exact .inr ⟨rfl, g, rfl, HDN.out.1, HDN.out.2.2⟩
  have hb : (r1 != 0) = true := by simpa using hr1
  have HR1 := hid hr1
  clear hr1
  go_wp2
  go_ret2
  rw [HOP.out]
  exact .inl ⟨HR1.out, rfl, HDN.out.2.1, HDN.out.2.2⟩
end Go.Proofs.YtjapeaoebjmpnaaGreatDoor
