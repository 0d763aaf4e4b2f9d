/- The walk of the reference's l01Cut: a text cut at its commas. -/
import Derived.Test.YtonkjignljdfgaaDoorLtI
import Derived.Test.YtonkjignljdfgaaDoorRlP
import Derived.Test.YtonkjignljdfgaaDoorRdS
namespace Go.Proofs.YtonkjignljdfgaaDoor.RlC
open Go.RowKit Go.Proofs.YtonkjignljdfgaaDoor.Dec Go.Proofs.YtonkjignljdfgaaDoor.DecT Go.Proofs.YtonkjignljdfgaaDoor.RdP Go.Proofs.YtonkjignljdfgaaDoor.Rd Go.Proofs.YtonkjignljdfgaaDoor.SlI Go.Proofs.YtonkjignljdfgaaDoor.Lt Go.Proofs.YtonkjignljdfgaaDoor.LtI Go.Proofs.YtonkjignljdfgaaDoor.RlP

/-- What lies behind the call: the pieces, in a row of its own. -/
def PRet (l : List UInt8) (w : World) (e : Ending) (w' : World) : Prop :=
  ∃ (b cap : Nat) (ds : List ByteArray), e = .returned (.slice (some ⟨b, 0, none⟩) ds.length cap) ∧ ds.map (·.data.toList) = cutsW [] l ∧ b < w'.heap.size ∧
    (∀ (j : Nat) x, ds[j]? = some x → w'.cell? ⟨b, j, none⟩ = some (.string x)) ∧ Below w.heap.size w w'

/-- How it stands ahead of place k: the pieces that are cut, and where the next one begins. -/
def CSt (s : ByteArray) (ds : List ByteArray) (fr k : Nat) : Prop :=
  ds.length ≤ k ∧ fr ≤ k ∧
  ((k ≤ s.size ∧ ds.map (·.data.toList) ++ cutsW ((s.data.toList.drop fr).take (k - fr)) (s.data.toList.drop k) = cutsW [] s.data.toList) ∨ (k = s.size + 1 ∧ ds.map (·.data.toList) = cutsW [] s.data.toList))

theorem CSt.start (s : ByteArray) : CSt s [] 0 0 := ⟨Nat.le_refl _, Nat.le_refl _, .inl ⟨Nat.zero_le _, by simp⟩⟩
theorem piece_data (s : ByteArray) (a b : Nat) (_h : a ≤ b) : (s.extract a b).data.toList = (s.data.toList.drop a).take (b - a) := by
  rw [Lib.extract_data]
theorem CSt.last {s : ByteArray} {ds : List ByteArray} {fr : Nat} (h : CSt s ds fr s.size) : CSt s (ds ++ [s.extract fr s.size]) (s.size + 1) (s.size + 1) := by
  obtain ⟨h1, h2, h3 | ⟨h3, _⟩⟩ := h
  · obtain ⟨_, h4⟩ := h3
    refine ⟨by simp; omega, Nat.le_refl _, .inr ⟨rfl, ?_⟩⟩
    have hd : s.data.toList.drop s.size = [] := List.drop_of_length_le (by rw [RdS.size_len]; exact Nat.le_refl _)
    rw [hd, cutsW_nil] at h4
    rw [List.map_append, ← h4, ← piece_data s fr s.size h2]; rfl
  · omega
theorem drop_at {s : ByteArray} {k : Nat} (h : k < s.size) : s.data.toList.drop k = s[k] :: s.data.toList.drop (k + 1) := by
  have hk : k < s.data.toList.length := by rw [RdS.size_len]; exact h
  rw [List.drop_eq_getElem_cons hk]
  congr 1
theorem CSt.comma {s : ByteArray} {ds : List ByteArray} {fr k : Nat} (h : CSt s ds fr k) (hk : k < s.size) (hc : ((s[k]).toNat : Int) = 44) : CSt s (ds ++ [s.extract fr k]) (k + 1) (k + 1) := by
  obtain ⟨h1, h2, ⟨_, h4⟩ | ⟨h3, _⟩⟩ := h
  · have e : s[k] = 44 := by
      apply UInt8.toNat_inj.1
      rw [show (44 : UInt8).toNat = 44 from rfl]; omega
    rw [drop_at hk, cutsW_cons, if_pos e] at h4
    refine ⟨by simp; omega, Nat.le_refl _, .inl ⟨by omega, ?_⟩⟩
    rw [← h4, List.map_append, ← piece_data s fr k h2]
    simp
  · omega
theorem CSt.other {s : ByteArray} {ds : List ByteArray} {fr k : Nat} (h : CSt s ds fr k) (hk : k < s.size) (hc : ¬ ((s[k]).toNat : Int) = 44) : CSt s ds fr (k + 1) := by
  obtain ⟨h1, h2, ⟨_, h4⟩ | ⟨h3, _⟩⟩ := h
  · have e : ¬ s[k] = 44 := by
      intro e
      rw [e] at hc; exact hc rfl
    rw [drop_at hk, cutsW_cons, if_neg e] at h4
    refine ⟨by omega, by omega, .inl ⟨by omega, ?_⟩⟩
    rw [← h4]
    congr 2
    have hl : k - fr < (s.data.toList.drop fr).length := by rw [List.length_drop, RdS.size_len]; omega
    rw [show k + 1 - fr = (k - fr) + 1 from by omega, List.take_succ_eq_append_getElem hl]
    congr 2
    rw [List.getElem_drop]
    simp only [show fr + (k - fr) = k from by omega]
    rfl
  · omega
theorem CSt.done {s : ByteArray} {ds : List ByteArray} {fr : Nat} (h : CSt s ds fr (s.size + 1)) : ds.map (·.data.toList) = cutsW [] s.data.toList := by
  obtain ⟨_, _, ⟨h3, _⟩ | ⟨_, h4⟩⟩ := h
  · omega
  · exact h4

def strV (ds : List ByteArray) : List Value := ds.map Value.string
theorem strV_snoc (ds : List ByteArray) (x : ByteArray) : strV (ds ++ [x]) = strV ds ++ [.string x] := by unfold strV; rw [List.map_append]; rfl

/-- The loop's state. -/
def CRel (s : ByteArray) (w : World) (g : Nat) (o f i : Value) (wr : World) : Prop :=
  ∃ (ds : List ByteArray) (b cap fr k : Nat), k + g = s.size + 1 ∧ o = .slice (some ⟨b, 0, none⟩) ds.length cap ∧ wr.ownsRow w.heap.size 9 1 (.slice (some ⟨b, 0, none⟩) ds.length cap) ds.length (strV ds)
    ∧ f = .int .i64 (fr : Int) ∧ i = .int .i64 (k : Int) ∧ Hid (CSt s ds fr k) ∧ Below w.heap.size w wr

theorem CRel.start (s : ByteArray) (w : World) : CRel s w (s.size + 1) (.slice (some ⟨w.heap.size, 0, none⟩) 0 0) (.int .i64 0) (.int .i64 0) (w.alloc (.cells #[] 9)) :=
  ⟨[], w.heap.size, 0, 0, 0, by omega, rfl, World.ownsRow_lit w #[] 0 (Nat.le_refl _) (by unfold maxLen; omega) rfl, rfl, rfl, Lib.hid (CSt.start s), (Below.refl _ _).alloc (Nat.le_refl _) _⟩
theorem CRel.more {s : ByteArray} {ds : List ByteArray} {w wr w3 : World} {b k g : Nat} {v : Value} {t : ByteArray} (hg : k + g = s.size + 1) (hk : k ≤ s.size) (hb : Below w.heap.size w wr)
    (ho : w3.ownsRow w.heap.size 9 1 v (ds.length + 1) (strV ds ++ [.string t])) (hgr : (wr.alloc (.cells #[.string t] 9)).grownBy w3 (some b)) (hbase : w.heap.size ≤ b) (hS : CSt s (ds ++ [t]) (k + 1) (k + 1)) :
    CRel s w (g - 1) v (.int .i64 ((k : Int) + 1)) (.int .i64 ((k : Int) + 1)) w3 := by
  obtain ⟨g1, cap1, rfl, _, _⟩ := ho.form (by omega)
  have e : ds.length + 1 = (ds ++ [t]).length := by simp
  rw [← strV_snoc, e] at ho
  refine ⟨ds ++ [t], g1, cap1, k + 1, k + 1, by omega, by rw [e], ho, rfl, rfl, Lib.hid hS, ?_⟩
  exact (hb.alloc hb.size _).grown hgr (by have := hb.size; simp; omega) (fun j hj => by injection hj with hj; rw [← hj]; exact hbase)

set_option maxRecDepth 20000 in
theorem cut_any (s : ByteArray) (w : World) (hs : s.size ≤ 1048576) :
    Calls Tryd.prog 35 #[.string s, .int .u8 44] w (PRet s.data.toList w) := by
  obtain ⟨i0, hi, hz0, hz1, hz2⟩ := info_parts info9
  go_enter Tryd.func35, Tryd.ntmps35
  go_wp2
  go_loopg [5, 6, 7] (s.size + 1) (fun g o f i wr => CRel s w g o f i wr)
  case atStart => exact CRel.start s w
  case round =>
    obtain ⟨ds, b, cap, fr, k, hk, rfl, hown, rfl, rfl, hst, hbel⟩ := hrel
    have hlen := hst.out.1
    have hfr := hst.out.2.1
    have hsz := hbel.size
    have hbase : w.heap.size ≤ b := hown.lt b rfl |>.1
    rcases Nat.lt_trichotomy k s.size with hlt | heq | hgt
    · by_cases hc : ((s[k]).toNat : Int) = 44
      · have hS := Lib.hid (hst.out.comma hlt hc)
        have hc1 : ((s[k]).toNat : Int) == 44 := by simpa using hc
        have hc2 : ((k : Int) == (s.size : Int)) = false := by simp; omega
        clear hc
        go_wp2_with (at_builtin; refine wpList_append_own _ rfl (.tmp 26) (.tmp 31) 43 rfl w.heap.size 9 i0 (.string ⟨#[]⟩) 1 16 Tryd.underlying43 hi hz0 hz1 hz2 rfl (by decide) _ ds.length (strV ds) rfl (hown.alloc _) ⟨wr.heap.size, 0, none⟩ 1 1 [.string _] rfl rfl ((lit_str hsz _).cells rfl) (one_str _) (by unfold maxLen; omega) (by omega) (by simp; omega) ?_; intro v w3 ho hg _)
        have R := CRel.more hk (by omega) hbel ho hg hbase hS.out
        go_roundg (gk - 1)
        case measure => omega
        case rel => exact R
      · have hS := Lib.hid (hst.out.other hlt hc)
        have hc1 : (((s[k]).toNat : Int) == 44) = false := by simpa using hc
        have hc2 : ((k : Int) == (s.size : Int)) = false := by simp; omega
        clear hc
        go_wp2
        go_roundg (gk - 1)
        case measure => omega
        case rel => exact ⟨ds, b, cap, fr, k + 1, by omega, rfl, hown, rfl, by go_num, hS, hbel⟩
    · subst heq
      have hS := Lib.hid hst.out.last
      go_wp2_with (at_builtin; refine wpList_append_own _ rfl (.tmp 26) (.tmp 31) 43 rfl w.heap.size 9 i0 (.string ⟨#[]⟩) 1 16 Tryd.underlying43 hi hz0 hz1 hz2 rfl (by decide) _ ds.length (strV ds) rfl (hown.alloc _) ⟨wr.heap.size, 0, none⟩ 1 1 [.string _] rfl rfl ((lit_str hsz _).cells rfl) (one_str _) (by unfold maxLen; omega) (by omega) (by simp; omega) ?_; intro v w3 ho hg _)
      have R := CRel.more hk (by omega) hbel ho hg hbase hS.out
      go_roundg (gk - 1)
      case measure => omega
      case rel => exact R
    · obtain rfl : k = s.size + 1 := by omega
      have HD := Lib.hid hst.out.done
      have hbl : b < wr.heap.size := hown.lt b rfl |>.2
      have HC : Hid (∀ (j : Nat) x, ds[j]? = some x → wr.cell? ⟨b, j, none⟩ = some (.string x)) := Lib.hid (fun j x hx => by
        have hc := hown.cells (g := b) rfl j (.string x) (by unfold strV; rw [List.getElem?_map, hx]; rfl)
        have hadd : (⟨b, 0, none⟩ : Addr).add j = ⟨b, j, none⟩ := by unfold Addr.add; split <;> simp_all
        rw [hadd] at hc
        exact hc)
      clear hst hown hfr hlen
      go_wp2
      go_ret
      exact ⟨b, cap, ds, rfl, HD.out, hbl, HC.out, hbel⟩
end Go.Proofs.YtonkjignljdfgaaDoor.RlC
