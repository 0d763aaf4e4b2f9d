/- Slices of float32: the law's toFloat32S makes a copy in new memory. -/
import Derived.Test.YtogclingihelaaaSameFloat
namespace Go.Proofs.Ytogclingihelaaa.SlF
open Go.RowKit Go.Proofs.Ytogclingihelaaa.FW

@[go_sem] theorem run_store_float (P : Program) (w : World) (a : Addr) (m : Mode) (k : FloatKind) (x : Nat) : (store a (.float k x) m).run P w = stored P w a (.float k x) m := run_store P w a _ m rfl

/-- The slice at 'a' reads 'f 0 .. f (n - 1)'. -/
def Rd (w : World) (a : Option Addr) (n : Nat) (f : Nat → Nat) : Prop :=
  ∀ i, i < n → ∃ b off, a = some ⟨b, off, none⟩ ∧ b < w.heap.size ∧ w.cell? ⟨b, off + i, none⟩ = some (.float .f32 (f i))

theorem Rd.below {w w' : World} {a : Option Addr} {n : Nat} {f : Nat → Nat} (h : Rd w a n f) (hb : Below w.heap.size w w') : Rd w' a n f := by
  intro i hi
  obtain ⟨b, off, rfl, hlt, hc⟩ := h i hi
  exact ⟨b, off, rfl, Nat.lt_of_lt_of_le hlt hb.size, (hb.cell hlt).trans hc⟩

theorem Rd.drewN {w : World} {a : Option Addr} {n : Nat} {f : Nat → Nat} (h : Rd w a n f) (m : Nat) : Rd (w.drewN m) a n f := h

theorem info : (Try.prog.info? 23).map (fun i => (i.zero, i.size, i.bytes)) = some (some (.float .f32 0), 1, 4) := by kernel_rfl

/-- What the copy's loop has done. -/
def Part (w wr : World) (n k : Nat) (f : Nat → Nat) : Prop :=
  ∃ xs, wr.ownsRow w.heap.size 23 1 (.slice (some ⟨w.heap.size, 0, none⟩) n n) n xs ∧ (∀ i, i < k → xs[i]? = some (.float .f32 (f i))) ∧ Below w.heap.size w wr

theorem Part.cell {w wr : World} {n k : Nat} {f : Nat → Nat} (h : Part w wr n k f) (j : Nat) (hj : j < n) : ∃ v, wr.cell? ⟨w.heap.size, j, none⟩ = some v := by
  obtain ⟨xs, h1, _, _⟩ := h
  have := h1.cellAt j (by omega)
  have hlen : xs.length = n * 1 := h1.1
  exact ⟨xs[j]'(by omega), by rw [this, List.getElem?_eq_getElem (by omega)]⟩

theorem Part.free {w wr : World} {n k : Nat} {f : Nat → Nat} (h : Part w wr n k f) (j : Nat) : wr.frozen? ⟨w.heap.size, j, none⟩ = false := by
  obtain ⟨xs, h1, _, _⟩ := h
  exact h1.frozenAt j

theorem Part.step {w wr : World} {n k : Nat} {f : Nat → Nat} (h : Part w wr n k f) (hk : k < n) : Part w (wr.setCell ⟨w.heap.size, k, none⟩ (.float .f32 (f k))) n (k + 1) f := by
  obtain ⟨xs, h1, h2, h3⟩ := h
  have hlen : xs.length = n * 1 := h1.1
  refine ⟨xs.set k (.float .f32 (f k)), (h1.stored k _).1, ?_, h3.setCell (by simp) _⟩
  intro i hi
  by_cases e : i = k
  · subst e; rw [List.getElem?_set_self (by omega)]
  · rw [List.getElem?_set_ne (by omega)]; exact h2 i (by omega)

theorem Part.done {w wr : World} {n : Nat} {f : Nat → Nat} (h : Part w wr n n f) : Rd wr (some ⟨w.heap.size, 0, none⟩) n f ∧ Below w.heap.size w wr := by
  obtain ⟨xs, h1, h2, h3⟩ := h
  refine ⟨fun i hi => ⟨w.heap.size, 0, rfl, ?_, ?_⟩, h3⟩
  · exact (h1.lt w.heap.size rfl).2
  · rw [Nat.zero_add, h1.cellAt i (by omega)]; exact h2 i hi

/-- The copy: new memory that reads as the old. -/
def Copied (w : World) (n : Nat) (f : Nat → Nat) (e : Ending) (w' : World) : Prop :=
  ∃ g, e = .returned (.slice (some ⟨g, 0, none⟩) n n) ∧ w.heap.size ≤ g ∧ Rd w' (some ⟨g, 0, none⟩) n f ∧ Below w.heap.size w w'

set_option maxHeartbeats 400000 in
theorem copy_any (a : Option Addr) (n cap : Nat) (f : Nat → Nat) (w : World) (h : Rd w a n f) (hn : n ≤ 1048576) :
    Calls Try.prog 27 #[.slice a n cap] w (Copied w n f) := by
  obtain ⟨i0, hi, hz0, hz1, hz2⟩ := info_parts info
  go_enter Try.func27, Try.ntmps27
  go_wp2_with (at_make; refine wpList_make_full _ rfl _ _ 35 rfl w.heap.size 23 i0 (.float .f32 0) 1 Try.underlying35 hi hz0 hz1 _ _ _ _ n rfl rfl rfl rfl (by rw [hz2]; omega) (by unfold maxLen; omega) (Nat.le_refl _) ?_)
  intro w0 hown0 hgrow0
  have hp0 : Part w w0 n 0 f := ⟨_, hown0, fun i hi => absurd hi (Nat.not_lt_zero _), (Below.refl _ _).grown hgrow0 (Nat.le_refl _) (fun k h => by cases h)⟩
  clear hown0 hgrow0 hz0 hz1 hz2 hi
  go_wp2
  go_loopw [4] (fun i wr => ∃ k : Nat, k ≤ n ∧ i = .int .i64 k ∧ Part w wr n k f) (fun i _ => n - (intOf i).toNat)
  case atStart => exact ⟨0, Nat.zero_le _, rfl, hp0⟩
  case round =>
    clear hp0
    obtain ⟨k, hk, rfl, hp⟩ := hrel
    by_cases hlt : k < n
    · obtain ⟨b, off, rfl, hb, hc⟩ := h k hlt
      have hbel : Below w.heap.size w wr := by obtain ⟨_, _, _, h3⟩ := hp; exact h3
      have hc' : wr.cell? ⟨b, off + k, none⟩ = some (.float .f32 (f k)) := (hbel.cell (p := ⟨b, off + k, none⟩) hb).trans hc
      obtain ⟨v, hv⟩ := hp.cell k hlt
      have hf := hp.free k
      have hstep := Lib.hid (hp.step hlt)
      clear hp hbel hc hb h
      go_wp2
      go_roundw
      case rel => exact ⟨k + 1, by omega, by go_num, hstep.out⟩
      case measure => simp [intOf]; omega
    · obtain rfl : k = n := by omega
      have hd := Lib.hid hp.done
      clear hp h
      go_wp2
      go_ret
      exact ⟨w.heap.size, rfl, Nat.le_refl _, hd.out.1, hd.out.2⟩

/-- Two steps, the first behind some draws. -/
theorem chain {w w1 w2 : World} (m : Nat) (h1 : Below w.heap.size w w1) (h2 : Below (w1.drewN m).heap.size (w1.drewN m) w2) : Below w.heap.size w w2 :=
  (below_drewN h1 m).trans (h2.mono h1.size)
end Go.Proofs.Ytogclingihelaaa.SlF
