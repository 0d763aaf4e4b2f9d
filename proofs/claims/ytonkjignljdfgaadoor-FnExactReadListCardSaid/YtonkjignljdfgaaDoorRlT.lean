/- The law on ReadList, out of the contracts. -/
import Derived.Test.YtonkjignljdfgaaDoorRlI
namespace Go.Proofs.YtonkjignljdfgaaDoor.RlT
open Go.RowKit Go.Proofs.YtonkjignljdfgaaDoor.Dec Go.Proofs.YtonkjignljdfgaaDoor.DecT Go.Proofs.YtonkjignljdfgaaDoor.RdP Go.Proofs.YtonkjignljdfgaaDoor.Rd Go.Proofs.YtonkjignljdfgaaDoor.RdT Go.Proofs.YtonkjignljdfgaaDoor.SlI Go.Proofs.YtonkjignljdfgaaDoor.Lt Go.Proofs.YtonkjignljdfgaaDoor.LtI Go.Proofs.YtonkjignljdfgaaDoor.RlP Go.Proofs.YtonkjignljdfgaaDoor.SlC Go.Proofs.YtonkjignljdfgaaDoor.Rl Go.Proofs.YtonkjignljdfgaaDoor.RlI

theorem ok_all {l : List UInt8} (h : ¬ AllG l) : okB l = false := by
  cases e : okB l with
  | false => rfl
  | true =>
    exfalso
    unfold okB at e
    rw [Bool.and_eq_true] at e
    exact h fun i hi => List.all_eq_true.1 e.1 i (List.mem_range.2 hi)

theorem impl_read (s : ByteArray) (w : World) (hs : s.size ≤ 1048576) (hG : GivesL w) : Calls Tryd.prog 14 #[.string s] w (RlRet s.data.toList w) := by
  have L := Lib.hid (list_read s w hs hG)
  clear hG
  go_enter Tryd.func14, Tryd.ntmps14
  go_wp2_with fail
  refine L.out.mono ?_
  clear L
  rintro e w1 (⟨hA, rfl, hb⟩ | ⟨hA, b, cap, n, hn, rfl, ho, hbase, hb⟩)
  · have HN := Lib.hid (ok_all hA)
    clear hA
    go_wp2
    go_ret2
    exact rl_no HN.out hb
  · by_cases h64 : 64 < n
    · have HN := Lib.hid (ok_many (l := s.data.toList) (by rw [← hn]; exact h64))
      clear hA hn ho
      go_wp2
      go_ret2
      exact rl_no HN.out hb
    · have h65 : n ≤ 64 := by omega
      have HR := Lib.hid (rl_yes (ok_yes (l := s.data.toList) hA (by rw [← hn]; exact h65)) n hn ho hbase hb)
      clear hA hn ho h64
      go_wp2
      go_ret2
      exact HR.out

theorem spec_read (s : ByteArray) (w : World) (hs : s.size ≤ 1048576) : Calls Tryd.prog 13 #[.string s] w (RlRet s.data.toList w) := by
  have L := Lib.hid (num_any s w hs)
  go_enter Tryd.func13, Tryd.ntmps13
  go_wp2_with fail
  refine L.out.mono ?_
  clear L
  rintro e w1 ⟨a, cap, g, rfl, h1, h2, h3⟩
  have HR : Hid (RlRet s.data.toList w (.returned (.tuple #[.slice a (nN s.data.toList) cap, .bool (okB s.data.toList)])) w1) := Lib.hid ⟨a, cap, g, rfl, h1, h2, h3⟩
  clear h1 h2 h3
  generalize nN s.data.toList = n at HR ⊢
  generalize okB s.data.toList = b at HR ⊢
  go_wp2
  go_ret2
  exact HR.out

set_option maxHeartbeats 4000000 in
theorem walk_small (s : ByteArray) (w : World) (hs : s.size ≤ 1048576) (hG : GivesL w) :
    Calls Tryd.prog 5 #[.string s] w fun e w' => e = .returned (.bool true) ∧ Below w.heap.size w w' := by
  have S' := Lib.hid (fun w => spec_read s w hs)
  have I' := Lib.hid (fun w hG => impl_read s w hs hG)
  have G := Lib.hid hG
  have hN' : nN s.data.toList ≤ 1048576 := by have := nN_le s.data.toList; omega
  clear hG
  unfold RlRet at S' I'
  generalize nN s.data.toList = N at S' I' hN'
  generalize okB s.data.toList = ok at S' I'
  generalize F s.data.toList = c at S' I'
  go_enter Tryd.func5, Tryd.ntmps5
  go_wp2_with fail
  refine (S'.out _).mono ?_
  rintro e w1 ⟨aS, cS, gs, rfl, s1, ks, B1⟩
  go_wp2_with fail
  refine (I'.out _ (G.out.below B1)).mono ?_
  rintro e w2 ⟨ai, ci, gi, rfl, i2, ki, b2⟩
  have B2 := grow B1 b2
  have s2 := s1.below b2
  have si := s1.ne ki
  have hi : w.heap.size ≤ gi := by have := B1.size; omega
  clear s1 b2 B1 ki
  go_wp2_with fail
  refine (eq_any _ _ _ _ _ c _ i2.rd s2.rd hN').mono ?_
  rintro e w2' ⟨d2, rfl, rfl⟩
  go_wp2_with fail
  refine (markC _ N _ gi c _ (i2.drewN d2) hN').mono ?_
  rintro e w3 ⟨rfl, i3, o3⟩
  have B3 := o3.below (below_drewN B2 d2) hi
  have s3 := (s2.drewN d2).other o3 si
  clear s2 i2 B2 o3
  go_wp2_with fail
  refine (heldC _ N _ _ i3.rd hN').mono ?_
  rintro e w3' ⟨rfl, rfl⟩
  go_wp2_with fail
  refine (I'.out _ (G.out.below B3)).mono ?_
  rintro e w4 ⟨ah, ch, gh, rfl, h4, kh, b4⟩
  have B4 := grow B3 b4
  have s4 := s3.below b4
  have i4 := i3.below b4
  clear s3 i3 B3 b4 kh I'
  go_wp2_with fail
  refine (eq_any _ _ _ _ _ c _ h4.rd s4.rd hN').mono ?_
  rintro e w4' ⟨d4, rfl, rfl⟩
  clear h4 s4
  go_wp2_with fail
  refine (heldC _ N _ _ (i4.drewN d4).rd hN').mono ?_
  rintro e w4'' ⟨rfl, rfl⟩
  go_wp2_with fail
  go_ret
  exact ⟨rfl, below_drewN B4 _⟩

/-- The law's walk. -/
theorem walk (s : ByteArray) (w : World) (_hs : s.size ≤ maxLen) (hG : GivesL w) :
    Calls Tryd.prog 5 #[.string s] w fun e w' => e = .returned (.bool true) ∧ Below w.heap.size w w' := by
  by_cases h : s.size ≤ 1048576
  · exact walk_small s w h hG
  · have h' : 1048576 < s.size := by omega
    clear h hG
    go_enter Tryd.func5, Tryd.ntmps5
    go_wp2
    go_ret
    exact ⟨rfl, Below.refl _ _⟩

/-! ### What the listed variables and the world's shape give -/
theorem max_of {W : World} (h : W.ShapedOpen Tryd.prog) : MaxC W := Tryd.laysM146.s1_3 W h
theorem gives_of {W : World} (h : laidMetH Tryd.prog Rows.fnExactReadListRow.laid W) (hsh : W.ShapedOpen Tryd.prog) : GivesL W := by
  rw [MakeChecks.laidMetH_plain _ _ _ (by kernel_rfl)] at h
  exact ⟨⟨tab_met h, sent_met h.tail.tail.tail.tail⟩, max_of hsh⟩
end Go.Proofs.YtonkjignljdfgaaDoor.RlT
