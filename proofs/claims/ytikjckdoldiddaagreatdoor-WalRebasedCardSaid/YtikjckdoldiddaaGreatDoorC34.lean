/- Opening a log behind a crash, in memory. -/
import Derived.Test.YtikjckdoldiddaaGreatDoorC32
import Derived.Test.YtikjckdoldiddaaGreatDoorC33
namespace Go.Proofs.YtikjckdoldiddaaGreatDoor
open Go.RowKit Go.Maps
set_option linter.unusedVariables false
set_option linter.unusedSimpArgs false
attribute [local go_sem] bmax2 bmin2 bmax_two bmin_two

/-- A log that was opened. -/
def OpenedPost (D : Nat → Prop) (dg : Nat) (d : DS) (V : Wv → Prop) (k : Nat) (w : World) (e : Ending) (w' : World) : Prop :=
  ∃ g s d2, e = .returned (.tuple #[.pointer (some ⟨g, 0, none⟩), .int .i64 0]) ∧ LoAt (Go.Proofs.YtikjckdoldiddaaGreatDoor.grow D w w') w' g dg ⟨s, d2⟩ ∧ Frm D w w' ∧ w.heap.size ≤ g ∧
    V s.v ∧ (Lo.mk s d2).Good (fun u => u = s.v) ∧ (Lo.mk s d2).Fit k 369098752 ∧ d2.acts = [] ∧ d2.last = d2.seen ∧ d2.room = d.room ∧ d2.used ≤ d.used
theorem open_at {D : Nat → Prop} {w : World} {dg : Nat} {d : DS} {V : Wv → Prop} {k : Nat} {s : Wl} (hd : DiskAt D w dg d) (hok : d.Ok) (hc : d.Calm) (hon : d.On (isWk k)) (hk : k < 1000000000) (hg : Gr d.seen s) (hV : V s.v) (ha : d.acts.length ≤ 1000000000) (hT : TabP w) (hpow : ¬ D powG) :
    Calls Tryz.prog 18 #[.pointer (some ⟨dg, 0, none⟩)] w (OpenedPost D dg d V k w) := by
  obtain ⟨l, hs⟩ := segs_of hok ((hon.wok (by omega)).wal hok)
  obtain ⟨d2, hr⟩ := open_gr hok hc hg hV hs
  obtain ⟨d3, f1, f2, -⟩ := open_fit hok hc hon (by omega) hs
  have e : d3 = d2 := by have h1 := hr.opened; rw [f1] at h1; injection h1
  subst e
  rw [hr.read] at f2
  refine (OpenW_any hd hok hs ha hT hpow).mono ?_
  rintro e w' hp
  rw [f1, hr.read] at hp
  rcases hp with ⟨h, -⟩ | ⟨-, g, he, h1, h2, h3⟩
  · exact absurd rfl h
  exact ⟨g, s, d3, he, h1, h2, h3, hr.view, hr.good, f2, hr.acts, hr.last, hr.room, hr.used⟩
/-- What is known behind a crash of a calm disk. -/
structure Crashed (d : DS) (k : Nat) : Prop where
  ok : d.Ok
  calm : d.Calm
  on : d.On (isWk k)
  acts : d.acts = []
theorem crash_of {v : Lo} {V : Wv → Prop} {k m : Nat} (h : v.Good V) (hf : v.Fit k m) (keep tear : Int) : v.d.crash keep tear = (0, v.d.fall keep tear) ∧ Crashed ((v.d.fall keep tear).start) k ∧ (∃ s, Gr ((v.d.fall keep tear).start).seen s ∧ V s.v) ∧ ((v.d.fall keep tear).start).room = v.d.room ∧ ((v.d.fall keep tear).start).used ≤ v.d.used := by
  refine ⟨by unfold DS.crash; rw [if_neg (by rw [h.calm.1]; simp)], ⟨(h.ok.fall keep tear).start2, ⟨rfl, rfl⟩, hf.on.fall keep tear, rfl⟩, ?_, rfl, crash_used h.ok keep tear⟩
  obtain ⟨s, h1, h2⟩ := h.ci keep tear
  exact ⟨s, h1, h2⟩
/-- The law's beginning: a log on an empty disk, and what was played. -/
theorem began {room : Int} (h0 : 0 ≤ room) (h1 : room ≤ 16777216) {D : List DoW} (h64 : ∀ d ∈ D, In64 d.t) (hD : D.length ≤ 60) (hW : sumW D ≤ 131072) :
    (playV (lo0 room) [(lo0 room).s.v] D).1.Good (inAll (playV (lo0 room) [(lo0 room).s.v] D).2) ∧ (playV (lo0 room) [(lo0 room).s.v] D).1.Cap 60 149000 ∧ (playV (lo0 room) [(lo0 room).s.v] D).1.d.room = room ∧ (playV (lo0 room) [(lo0 room).s.v] D).1.Fit 60 400393216 := by
  obtain ⟨g0, c0⟩ := new_good h0 h1
  obtain ⟨a1, a2, a3, a4⟩ := play_good g0 c0 (lo0_fit h0 h1) (by decide) (by decide) D h64 hD hW
  exact ⟨a1, a2.le (by decide) (Nat.le_refl _), a3, a4.le (by decide) (Nat.le_refl _)⟩
theorem DosF.t64 {F : Nat → Prop} {w : World} {a : Option Addr} {n c : Nat} {D : List DoW} (h : DosF F w a n c D) : ∀ d ∈ D, In64 d.t := fun d hd => by
  obtain ⟨i, hi, rfl⟩ := List.getElem_of_mem hd
  obtain ⟨b, o, -, -, -, hl, hdo⟩ := h.at_ (k := i) (by have := h.1; omega)
  exact hdo.i64.2.2.2.2.1
theorem PlayInv.fresh {A : Nat → Prop} {g dg : Nat} {w0 w w' : World} {v : Lo} {all : List Wv} {val : Value} (hx : Ext w0 w) (hA : ∀ q, A q → w0.heap.size ≤ q) (h : PlayInv A g dg w v all val w') :
    Ext w0 w' ∧ ∃ A', LoAt A' w' g dg v ∧ (∀ q, A' q → w0.heap.size ≤ q) ∧ VsR (fun q => ¬ A' q) w.heap.size w' val all ∧ ∀ q, val.ownBlock = some q → ¬ A' q := by
  obtain ⟨A', h1, h2, h3, h4, h5⟩ := h
  refine ⟨ext_frm hx h5 hA, A', h1, fun q hq => ?_, h2, h3⟩
  rcases h4 q hq with h | h
  · exact hA q h
  have := hx.size; omega
end Go.Proofs.YtikjckdoldiddaaGreatDoor
