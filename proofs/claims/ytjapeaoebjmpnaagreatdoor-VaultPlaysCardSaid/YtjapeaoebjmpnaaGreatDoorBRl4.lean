/- Two things of one's own side by side; the steps of a vault and of its reference. -/
import Derived.Test.YtjapeaoebjmpnaaGreatDoorB43
import Derived.Test.YtjapeaoebjmpnaaGreatDoorB28
namespace Go.Proofs.YtjapeaoebjmpnaaGreatDoor
open Go.RowKit Go.Maps
set_option linter.unusedVariables false
set_option linter.unusedSimpArgs false

/-- What lies in blocks of its own, and stays when others are written. -/
structure Keeps (P : (Nat → Prop) → World → Prop) : Prop where
  frm : ∀ A E W W', P A W → Frm E W W' → (∀ q, A q → ¬ E q) → P A W'
  lt : ∀ A W, P A W → ∀ q, A q → q < W.heap.size
theorem Keeps.below {P : (Nat → Prop) → World → Prop} (h : Keeps P) {A : Nat → Prop} {W W' : World} (hp : P A W) (hx : Ext W W') : P A W' := h.frm A (fun _ => False) W W' hp (Frm.of_ext hx _) fun _ _ h => h
def Duo (P Q : (Nat → Prop) → World → Prop) (U : Nat → Prop) (W : World) : Prop :=
  Keeps P ∧ Keeps Q ∧ ∃ A B, P A W ∧ Q B W ∧ (∀ q, A q → U q ∧ ¬ B q) ∧ (∀ q, B q → U q) ∧ ∀ q, U q → q < W.heap.size
section
variable {P Q P' : (Nat → Prop) → World → Prop} {U : Nat → Prop} {W W' : World}
theorem Duo.lt (h : Duo P Q U W) : ∀ q, U q → q < W.heap.size := by
  obtain ⟨-, -, A, B, -, -, -, -, h⟩ := h; exact h
theorem Duo.frm {E : Nat → Prop} (h : Duo P Q U W) (hf : Frm E W W') (hE : ∀ q, U q → ¬ E q) : Duo P Q U W' := by
  obtain ⟨kp, kq, A, B, h1, h2, h3, h4, h5⟩ := h
  exact ⟨kp, kq, A, B, kp.frm A E W W' h1 hf fun q hq => hE q (h3 q hq).1, kq.frm B E W W' h2 hf fun q hq => hE q (h4 q hq), h3, h4, fun q hq => Nat.lt_of_lt_of_le (h5 q hq) hf.size⟩
theorem Duo.below (h : Duo P Q U W) (hx : Ext W W') : Duo P Q U W' := h.frm (Frm.of_ext hx (fun _ => False)) fun _ _ h => h
theorem Duo.keeps (hp : Keeps P) (hq : Keeps Q) : Keeps (Duo P Q) := ⟨fun A E W W' h hf hE => h.frm hf hE, fun A W h => h.lt⟩
theorem Duo.left (h : Duo P Q U W) : ∃ A, P A W ∧ (∀ q, A q → U q) ∧ ∀ (P' : (Nat → Prop) → World → Prop) (W' : World), Keeps P' → P' (grow A W W') W' → Frm A W W' → Duo P' Q (grow U W W') W' ∧ Frm U W W' := by
  obtain ⟨kp, kq, A, B, h1, h2, h3, h4, h5⟩ := h
  refine ⟨A, h1, fun q hq => (h3 q hq).1, fun P' W' kp' hp hf => ⟨⟨kp', kq, grow A W W', B, hp, kq.frm B A W W' h2 hf (fun q hq h => (h3 q h).2 hq), fun q hq => ?_, fun q hq => .inl (h4 q hq), grow.lt h5 hf.size⟩, hf.more fun q hq => (h3 q hq).1⟩⟩
  rcases hq with hq | hq
  · exact ⟨.inl (h3 q hq).1, (h3 q hq).2⟩
  exact ⟨.inr hq, fun h => by have := kq.lt B W h2 q h; omega⟩
theorem Duo.right (h : Duo P Q U W) : ∃ B, Q B W ∧ (∀ q, B q → U q) ∧ ∀ (Q' : (Nat → Prop) → World → Prop) (W' : World), Keeps Q' → Q' (grow B W W') W' → Frm B W W' → Duo P Q' (grow U W W') W' ∧ Frm U W W' := by
  obtain ⟨kp, kq, A, B, h1, h2, h3, h4, h5⟩ := h
  refine ⟨B, h2, h4, fun Q' W' kq' hq hf => ⟨⟨kp, kq', A, grow B W W', kp.frm A B W W' h1 hf (fun q hq => (h3 q hq).2), hq, fun q hq => ⟨.inl (h3 q hq).1, fun h => ?_⟩, fun q hq => ?_, grow.lt h5 hf.size⟩, hf.more h4⟩⟩
  · rcases h with h | h
    · exact (h3 q hq).2 h
    have := kp.lt A W h1 q hq; omega
  rcases hq with hq | hq
  · exact .inl (h4 q hq)
  exact .inr hq
end
/-- Blocks that are no such thing's, and stay so. -/
def OutU (U : Nat → Prop) (W : World) (F : Nat → Prop) : Prop := ∀ q, F q → ¬ U q ∧ q < W.heap.size
theorem OutU.step {U F : Nat → Prop} {W W' : World} (h : OutU U W F) (hf : Frm U W W') : OutU (grow U W W') W' F := fun q hq => by
  obtain ⟨h1, h2⟩ := h q hq
  refine ⟨fun h => ?_, Nat.lt_of_lt_of_le h2 hf.size⟩
  rcases h with h | h
  · exact h1 h
  omega
theorem OutU.below {U F : Nat → Prop} {W W' : World} (h : OutU U W F) (hx : Ext W W') : OutU U W' F := fun q hq => ⟨(h q hq).1, Nat.lt_of_lt_of_le (h q hq).2 hx.size⟩
theorem OutU.new {U : Nat → Prop} {W W1 W2 : World} (hU : ∀ q, U q → q < W.heap.size) (h1 : W.heap.size ≤ W1.heap.size) : OutU U W2 (fun q => W1.heap.size ≤ q ∧ q < W2.heap.size) := fun q hq => ⟨fun h => by have := hU q h; have := hq.1; omega, hq.2⟩
theorem OutU.one {U : Nat → Prop} {W W2 : World} {p : Nat} (hU : ∀ q, U q → q < W.heap.size) (h1 : W.heap.size ≤ p) (h2 : p < W2.heap.size) : OutU U W2 (fun q => q = p) := fun q hq => by
  subst hq
  exact ⟨fun h => by have := hU q h; omega, h2⟩
theorem OutU.heap {U : Nat → Prop} {W W' : World} {F : Nat → Prop} (h : OutU U W F) (hf : Frm U W W') {p : Nat} (hp : F p) : W'.heap[p]? = W.heap[p]? := hf.block p (h p hp).2 (h p hp).1
theorem OutU.sn {U F : Nat → Prop} {W W' : World} {v : Value} {s : Sn} (h : OutU U W F) (hs : SnV F W v s) (hf : Frm U W W') : SnV F W' v s := hs.keep fun q hq hl => ⟨hq, h.heap hf hq⟩
theorem OutU.row {U F : Nat → Prop} {W W' : World} {a : Option Addr} {n : Nat} (h : OutU U W F) (hs : Row8 F W a n) (hf : Frm U W W') : Row8 F W' a n := hs.keep (fun q hq hl => ⟨hq, h.heap hf hq⟩) hf.size
theorem grow_ge {U : Nat → Prop} {W W' : World} {n : Nat} (h : ∀ q, U q → n ≤ q) (hn : n ≤ W.heap.size) : ∀ q, grow U W W' q → n ≤ q := fun q hq => by
  rcases hq with hq | hq
  · exact h q hq
  omega

/-! ### the four things -/
abbrev VaP (g dg : Nat) (v : VS) : (Nat → Prop) → World → Prop := fun A W => VaAt A W g dg v
abbrev RvP (g dg : Nat) (v : VS) : (Nat → Prop) → World → Prop := fun A W => RVaAt A W g dg v
abbrev DkP (dg : Nat) (d : DS) : (Nat → Prop) → World → Prop := fun A W => DiskAt A W dg d
abbrev RkP (dg : Nat) (d : DS) : (Nat → Prop) → World → Prop := fun A W => RDk A W dg d
theorem VaP.keeps (g dg : Nat) (v : VS) : Keeps (VaP g dg v) := ⟨fun A E W W' h hf hE => h.frm hf hE, fun A W h => h.lt⟩
theorem RvP.keeps (g dg : Nat) (v : VS) : Keeps (RvP g dg v) := ⟨fun A E W W' h hf hE => h.frm hf hE, fun A W h => h.lt⟩
theorem DkP.keeps (dg : Nat) (d : DS) : Keeps (DkP dg d) := ⟨fun A E W W' h hf hE => h.frm hf hE, fun A W h => h.lt⟩
theorem RkP.keeps (dg : Nat) (d : DS) : Keeps (RkP dg d) := ⟨fun A E W W' h hf hE => h.frm hf hE, fun A W h => h.lt⟩
theorem VaAt.doesF {A : Nat → Prop} {w : World} {g dg : Nat} {v : VS} (h : VaAt A w g dg v) :
    ∃ D, DiskAt D w dg v.d ∧ (∀ q, D q → A q) ∧ ∀ r e w', DoPost D dg r w e w' → e = .returned (.int .i64 r.1) ∧ VaAt (grow A w w') w' g dg ⟨v.s, v.some, r.2⟩ ∧ Frm A w w' := by
  obtain ⟨D, G, h1, h2, h3, h4, h5, h6⟩ := h
  refine ⟨D, h1, fun q hq => (h3 q hq).1, fun r e w' hp => ?_⟩
  obtain ⟨k1, k2, k3⟩ := hp
  obtain ⟨m1, m2⟩ := VaAt.disk h2 h3 h4 h5 h6 h1.lt (Frm.refl A w) k2 k3
  exact ⟨k1, m1, m2⟩
theorem RVaAt.doesF {A : Nat → Prop} {w : World} {g dg : Nat} {v : VS} (h : RVaAt A w g dg v) :
    ∃ D, RDk D w dg v.d ∧ (∀ q, D q → A q) ∧ ∀ r e w', RPost D dg r w e w' → e = .returned (.int .i64 r.1) ∧ RVaAt (grow A w w') w' g dg ⟨v.s, v.some, r.2⟩ ∧ Frm A w w' := by
  obtain ⟨D, G, h1, h2, h3, h4, h5, h6⟩ := h
  refine ⟨D, h1, fun q hq => (h3 q hq).1, fun r e w' hp => ?_⟩
  obtain ⟨k1, k2, k3⟩ := hp
  obtain ⟨m1, m2⟩ := RVaAt.disk h2 h3 h4 h5 h6 h1.lt (Frm.refl A w) k2 k3
  exact ⟨k1, m1, m2⟩
/-- What a call leaves: an errno, the two things, and all else as it was. -/
def DuoPost (P Q : (Nat → Prop) → World → Prop) (U : Nat → Prop) (z : Int) (W : World) (e : Ending) (W' : World) : Prop :=
  e = .returned (.int .i64 z) ∧ Duo P Q (grow U W W') W' ∧ Frm U W W'
/-- What an Open leaves that answers OK. -/
def DuoOpen (PQ : Nat → (Nat → Prop) → World → Prop) (U : Nat → Prop) (W : World) (e : Ending) (W' : World) : Prop :=
  ∃ g, e = .returned (.tuple #[.pointer (some ⟨g, 0, none⟩), .int .i64 0]) ∧ PQ g (grow U W W') W' ∧ Frm U W W'
section
variable {P Q : (Nat → Prop) → World → Prop} {U F : Nat → Prop} {W : World} {g dg rg rdg : Nat} {v x : VS}
theorem Duo.saveL {s : Sn} {val : Value} (h : Duo (VaP g dg v) Q U W) (hok : v.Ok) (hc : v.d.acts.length ≤ 1000000000) (hs : SnV F W val s) (hF : ∀ q, F q → ¬ U q) (hT : TabP W) (hpow : ¬ U powG) :
    Calls Tryz.prog 17 #[.pointer (some ⟨g, 0, none⟩), val] W (DuoPost (VaP g dg (saveS v s).2) Q U (saveS v s).1 W) := by
  obtain ⟨A, h1, h2, h3⟩ := h.left
  refine (Save_any h1 hok hc hs (fun q hq h => hF q hq (h2 q h)) hT (fun h => hpow (h2 _ h))).mono fun e W' hp => ?_
  obtain ⟨k1, k2, k3⟩ := hp
  obtain ⟨k4, k5⟩ := h3 (VaP g dg (saveS v s).2) W' (VaP.keeps _ _ _) k2 k3
  exact ⟨k1, k4, k5⟩
theorem Duo.saveR {s : Sn} {val : Value} (h : Duo P (RvP g dg v) U W) (hok : v.Ok) (hc : v.d.acts.length ≤ 1000000000) (hs : SnV F W val s) (hF : ∀ q, F q → ¬ U q) :
    Calls Tryz.prog 34 #[.pointer (some ⟨g, 0, none⟩), val] W (DuoPost P (RvP g dg (saveS v s).2) U (saveS v s).1 W) := by
  obtain ⟨A, h1, h2, h3⟩ := h.right
  refine (RSave_any h1 hok hc hs (fun q hq h => hF q hq (h2 q h))).mono fun e W' hp => ?_
  obtain ⟨k1, k2, k3⟩ := hp
  obtain ⟨k4, k5⟩ := h3 (RvP g dg (saveS v s).2) W' (RvP.keeps _ _ _) k2 k3
  exact ⟨k1, k4, k5⟩
theorem Duo.doesL {f : FuncId} {args : Array Value} {r : Int × DS} (h : Duo (VaP g dg v) Q U W) (hc : ∀ D, DiskAt D W dg v.d → Calls Tryz.prog f args W (DoPost D dg r W)) :
    Calls Tryz.prog f args W (DuoPost (VaP g dg ⟨v.s, v.some, r.2⟩) Q U r.1 W) := by
  obtain ⟨A, h1, h2, h3⟩ := h.left
  obtain ⟨D, hd, -, hdo⟩ := h1.doesF
  refine (hc D hd).mono fun e W' hp => ?_
  obtain ⟨k1, k2, k3⟩ := hdo r e W' hp
  obtain ⟨k4, k5⟩ := h3 (VaP g dg ⟨v.s, v.some, r.2⟩) W' (VaP.keeps _ _ _) k2 k3
  exact ⟨k1, k4, k5⟩
theorem Duo.doesR {f : FuncId} {args : Array Value} {r : Int × DS} (h : Duo P (RvP g dg v) U W) (hc : ∀ D, RDk D W dg v.d → Calls Tryz.prog f args W (RPost D dg r W)) :
    Calls Tryz.prog f args W (DuoPost P (RvP g dg ⟨v.s, v.some, r.2⟩) U r.1 W) := by
  obtain ⟨A, h1, h2, h3⟩ := h.right
  obtain ⟨D, hd, -, hdo⟩ := h1.doesF
  refine (hc D hd).mono fun e W' hp => ?_
  obtain ⟨k1, k2, k3⟩ := hdo r e W' hp
  obtain ⟨k4, k5⟩ := h3 (RvP g dg ⟨v.s, v.some, r.2⟩) W' (RvP.keeps _ _ _) k2 k3
  exact ⟨k1, k4, k5⟩
theorem Duo.diskL (h : Duo (VaP g dg v) Q U W) : Duo (DkP dg v.d) Q U W := by
  obtain ⟨kp, kq, A, B, h1, h2, h3, h4, h5⟩ := h
  obtain ⟨D, hd, hD, -⟩ := VaAt.doesF h1
  exact ⟨DkP.keeps _ _, kq, D, B, hd, h2, fun q hq => h3 q (hD q hq), h4, h5⟩
theorem Duo.diskR (h : Duo P (RvP g dg v) U W) : Duo P (RkP dg v.d) U W := by
  obtain ⟨kp, kq, A, B, h1, h2, h3, h4, h5⟩ := h
  obtain ⟨D, hd, hD, -⟩ := RVaAt.doesF h2
  exact ⟨kp, RkP.keeps _ _, A, D, h1, hd, fun q hq => ⟨(h3 q hq).1, fun h => (h3 q hq).2 (hD q h)⟩, fun q hq => h4 q (hD q hq), h5⟩
theorem Duo.openL {d : DS} (h : Duo (DkP dg d) Q U W) (hok : d.Ok) (hnm : d.Nms) (hc : d.acts.length ≤ 1000000000) (hT : TabP W) (hpow : ¬ U powG) (h0 : (openS d).1 = 0) :
    Calls Tryz.prog 24 #[.pointer (some ⟨dg, 0, none⟩)] W (DuoOpen (fun g => Duo (VaP g dg ⟨(kept d).1, (kept d).2, (openS d).2⟩) Q) U W) := by
  obtain ⟨A, h1, h2, h3⟩ := h.left
  refine (Open_any h1 hok hnm hc hT (fun h => hpow (h2 _ h))).mono fun e W' hp => ?_
  rcases hp with ⟨hno, -⟩ | ⟨-, g, k1, k2, k3⟩
  · exact absurd h0 hno
  obtain ⟨k4, k5⟩ := h3 (VaP g dg ⟨(kept d).1, (kept d).2, (openS d).2⟩) W' (VaP.keeps _ _ _) k2 k3
  exact ⟨g, k1, k4, k5⟩
theorem Duo.openR {d : DS} (h : Duo P (RkP dg d) U W) (hok : d.Ok) (hnm : d.Nms) (hc : d.acts.length ≤ 1000000000) (h0 : (openS d).1 = 0) :
    Calls Tryz.prog 29 #[.pointer (some ⟨dg, 0, none⟩)] W (DuoOpen (fun g => Duo P (RvP g dg ⟨(kept d).1, (kept d).2, (openS d).2⟩)) U W) := by
  obtain ⟨A, h1, h2, h3⟩ := h.right
  refine (ROpen_any h1 hok hnm hok.run.1 hc).mono fun e W' hp => ?_
  rcases hp with ⟨hno, -⟩ | ⟨-, g, k1, k2, k3⟩
  · exact absurd h0 hno
  obtain ⟨k4, k5⟩ := h3 (RvP g dg ⟨(kept d).1, (kept d).2, (openS d).2⟩) W' (RvP.keeps _ _ _) k2 k3
  exact ⟨g, k1, k4, k5⟩
theorem Duo.tells (h : Duo (VaP g dg v) (RvP rg rdg v) U W) (hn : v.some = false → v.s = sn0) (hd : v.s.d.length ≤ 262144) :
    Calls Tryz.prog 30 #[.pointer (some ⟨g, 0, none⟩), .pointer (some ⟨rg, 0, none⟩)] W (fun e w' => e = .returned (.bool true) ∧ Ext W w') := by
  obtain ⟨-, -, A, B, ⟨D1, G1, d1, d2, -⟩, ⟨D2, G2, e1, e2, -⟩, -⟩ := h
  exact tells_any (v := v) d2 e2 hn hd
theorem Duo.alike (h : Duo (VaP g dg v) (RvP rg rdg v) U W) (hok : v.d.Ok) (hnm : v.d.Nms) (ho : v.d.off = false) (hc : v.d.acts.length ≤ 1000000000) :
    Calls Tryz.prog 31 #[.pointer (some ⟨dg, 0, none⟩), .pointer (some ⟨rdg, 0, none⟩)] W (fun e w' => e = .returned (.bool true) ∧ Ext W w') := by
  obtain ⟨-, -, A, B, ⟨D1, G1, d1, d2, -⟩, ⟨D2, G2, e1, e2, -⟩, -⟩ := h
  exact alike_any d1 e1 hok hnm ho hc
/-- The reference's disk tells whether it is off. -/
theorem Duo.off (h : Duo P (RvP rg rdg v) U W) : ∀ W', Ext W W' → W'.cell? ⟨rdg, 3, none⟩ = some (.bool v.d.off) := by
  intro W' hx
  obtain ⟨-, -, A, B, -, ⟨D2, G2, e1, -⟩, -⟩ := h.below hx
  obtain ⟨la, ln, lc, av, H, k, t, hi⟩ := e1
  exact (rcells7 hi.obj).1.2.2.2.1
end
/-! ### what the plays lead to -/
theorem Play.crash {v : VS} (h : Play v) (keep tear : Int) : Play ⟨v.s, v.some, (v.d.crash keep tear).2⟩ ∧ (v.d.crash keep tear).2.acts.length ≤ v.d.acts.length := by
  refine ⟨⟨?_, h.may.crash _ _, h.s, h.none⟩, ?_⟩
  · exact h.ok.crash keep tear
  unfold DS.crash
  split
  · exact Nat.le_refl _
  exact Nat.zero_le _
theorem Play.arm {v : VS} (h : Play v) (n keep tear : Int) (hn : In64 n) (hk : In64 keep) (ht : In64 tear) : Play ⟨v.s, v.some, (v.d.arm n keep tear).2⟩ ∧ (v.d.arm n keep tear).2.acts.length ≤ v.d.acts.length := by
  refine ⟨⟨h.ok.arm n keep tear hn hk ht, h.may.arm _ _ _, h.s, h.none⟩, ?_⟩
  unfold DS.arm
  split <;> exact Nat.le_refl _
/-- A vault whose power went starts and opens again. -/
theorem Play.again {v : VS} (h : Play v) (ho : v.d.off = true) : (openS v.d.start).1 = 0 ∧ Play ⟨(kept v.d.start).1, (kept v.d.start).2, (openS v.d.start).2⟩ ∧ (openS v.d.start).2.off = false ∧ (openS v.d.start).2.acts.length ≤ 5000 ∧
    v.d.start.Ok ∧ v.d.start.Nms ∧ v.d.start.acts.length ≤ 5000 := by
  have hs : v.d.start.Ok := h.ok.start
  have hm : MayD v.d.start := h.may.start
  obtain ⟨h1, h2⟩ := h.ok.off ho
  obtain ⟨h3, h4⟩ := open_on hs hm rfl h1
  have h5 := openS_acts v.d.start hs
  have h6 : v.d.start.acts.length = 0 := by show v.d.acts.length = 0; rw [h2]; rfl
  exact ⟨h3, Play.open_ hs hm, h4, by omega, hs, hm.nms, by omega⟩
end Go.Proofs.YtjapeaoebjmpnaaGreatDoor
