/-
  The law LinesNames: it answers true.
-/
import Derived.Laws.IdiomStrings
import Derived.Test.YtkhbggihgodpkaaDoorR5
namespace Go.Proofs.YtkhbggihgodpkaaDoor
open Go.RowKit Go.Shelf Go.Lib

/-- A text of zeros. -/
def zs (n : Nat) : ByteArray := ⟨(List.replicate n (0 : UInt8)).toArray⟩
theorem zs_list (n : Nat) : (zs n).data.toList = List.replicate n 0 := rfl
theorem zs_size (n : Nat) : (zs n).size = n := by rw [Lib.size_eq, zs_list, List.length_replicate]
theorem zs_valid : ∀ n : Nat, validD (List.replicate n (0 : UInt8)) = true
  | 0 => rfl
  | n + 1 => by
    rw [List.replicate_succ, show (0 : UInt8) :: List.replicate n 0 = [0] ++ List.replicate n 0 from rfl, validD_append 1 [0] _ (by simp) (by kernel_rfl)]
    exact zs_valid n
theorem info5 : (Tryd.prog.info? 5).map (fun i => (i.zero, i.size, i.bytes)) = some (some (.int .u8 0), 1, 1) := by kernel_rfl
theorem made_zs (w : World) (n : Nat) (hn : n ≤ 100000) : ∃ w', (Instr.makeSlice 56 (.int .i64 (n : Int)) (.int .i64 (n : Int))).run Tryd.prog w = .ok (.slice (some ⟨w.heap.size, 0, none⟩) n n) w' ∧
    Below w.heap.size w w' ∧ (convert 56 9 (.slice (some ⟨w.heap.size, 0, none⟩) n n)).run Tryd.prog w' = .ok (.string (zs n)) w' := by
  obtain ⟨i0, hi, hz0, hz1, hz2⟩ := info_parts info5
  obtain ⟨w', hr, ho, hg⟩ := run_make_full (P := Tryd.prog) w w.heap.size 56 5 i0 (.int .u8 0) 1 Tryd.underlying56 hi hz0 hz1 .i64 .i64 n (by rw [hz2]; omega) (by unfold maxLen; omega) (Nat.le_refl _)
  refine ⟨w', hr, (Below.refl _ _).grown hg (Nat.le_refl _) (fun _ h => by cases h), ?_⟩
  have hc := run_convert_bytes_back (P := Tryd.prog) w' 56 9 5 ⟨w.heap.size, 0, none⟩ n (List.replicate n (0 : UInt8)) Tryd.underlying56 Tryd.underlying5 Tryd.underlying9 (fun j hj => by
    rw [List.length_replicate] at hj
    have := ho.cellAt j (by omega)
    rw [show (Value.int .u8 0).cells = #[Value.int .u8 0] from rfl, toList_madeCells_one, List.getElem?_replicate, if_pos (by omega)] at this
    rw [List.getElem_replicate]
    exact (show w'.cell? ((⟨w.heap.size, 0, none⟩ : Addr).add j) = w'.cell? ⟨w.heap.size, j, none⟩ by by_cases h0 : j = 0 <;> simp [Addr.add, h0]).trans this)
  rw [List.length_replicate] at hc
  exact hc

set_option maxRecDepth 100000 in
set_option maxHeartbeats 1000000 in
theorem offset_nil (p1 p2 : Int) (w : World) : Calls Tryd.prog 15 #[.pointer none, .agg #[.int .i64 p1, .int .i64 p2]] w fun e w' => e = .returned (.tuple #[.int .i64 0, .int .i64 2]) ∧ Below w.heap.size w w' := by
  go_enter Tryd.func15, Tryd.ntmps15
  go_wp2
  go_ret2
  exact ⟨rfl, (Below.refl _ w).alloc (Nat.le_refl _) _⟩
set_option maxRecDepth 100000 in
set_option maxHeartbeats 1000000 in
theorem span_nil (w : World) : Calls Tryd.prog 20 #[.pointer none, .agg #[.int .i64 0, .int .i64 0, .int .i64 0, .int .i64 0]] w fun e w' => e = .returned (.tuple #[.agg #[.int .i64 0, .int .i64 0], .int .i64 2]) ∧ Below w.heap.size w w' := by
  have c := fun W => offset_nil 0 0 W
  have k0 := ((Below.refl w.heap.size w).alloc (Nat.le_refl _) (.cells #[.int .i64 0, .int .i64 0, .int .i64 0, .int .i64 0] 47)).alloc (by simp) (.cells #[.int .i64 0, .int .i64 0] 32)
  have ra := bx_new (w.alloc (.cells #[.int .i64 0, .int .i64 0, .int .i64 0, .int .i64 0] 47)) (.int .i64 0) (.int .i64 0) 32
  rw [World.size_alloc] at ra
  have HR := Lib.hid ra
  clear ra
  go_enter Tryd.func20, Tryd.ntmps20
  go_wp2_with (go_at_call 15; refine (c _).mono ?_; rintro e w1 ⟨rfl, hb1⟩; obtain ⟨r0, r1, rf0, rf1⟩ := HR.out.below hb1 (Nat.le_refl _))
  refine bodyPost_ret (v := .tuple #[.agg #[.int .i64 0, .int .i64 0], .int .i64 2]) (by simp [results, Tryd.f20, go_sem, r0, r1]) rfl ⟨rfl, ?_⟩
  exact ((k0.trans (hb1.mono k0.size)).setCell (p := ⟨w.heap.size + 1, 0, none⟩) (by show w.heap.size ≤ w.heap.size + 1; omega) _).setCell (p := ⟨w.heap.size + 1, 1, none⟩) (by show w.heap.size ≤ w.heap.size + 1; omega) _
set_option maxRecDepth 100000 in
set_option maxHeartbeats 1000000 in
theorem range_nil (w : World) : Calls Tryd.prog 22 #[.pointer none, .agg #[.int .i64 0, .int .i64 0]] w fun e w' => e = .returned (.tuple #[.agg #[.int .i64 0, .int .i64 0, .int .i64 0, .int .i64 0], .int .i64 2]) ∧ Below w.heap.size w w' := by
  have k0 := ((Below.refl w.heap.size w).alloc (Nat.le_refl _) (.cells #[.int .i64 0, .int .i64 0] 32)).alloc (by simp) (.cells #[.int .i64 0, .int .i64 0, .int .i64 0, .int .i64 0] 47)
  go_enter Tryd.func22, Tryd.ntmps22
  go_wp2
  exact bodyPost_ret (v := .tuple #[.agg #[.int .i64 0, .int .i64 0, .int .i64 0, .int .i64 0], .int .i64 2]) (by simp [results, Tryd.f22, go_sem]) rfl ⟨rfl, k0⟩

def nmT : ByteArray := ⟨#[13, 13, 10, 10]⟩
theorem nmV : validD nmT.data.toList = true := by kernel_rfl
theorem nmS : spans nmT.data.toList = [(0, 0), (1, 1), (3, 3), (4, 4)] := by kernel_rfl
theorem nmP : posV nmT.data.toList 2 = ((1, 0), 0) := by kernel_rfl
theorem nmO : offsetV nmT.data.toList 1 0 = (1, 0) := by kernel_rfl
theorem nmSp : spanV nmT.data.toList 2 0 1 0 = ((0, 0), 60) := by kernel_rfl
theorem nmR : rangeV nmT.data.toList 2 1 = (((0, 0), (0, 0)), 1) := by kernel_rfl
def emT : ByteArray := ⟨#[]⟩
theorem emS : spans emT.data.toList = [(0, 0)] := by kernel_rfl

set_option maxRecDepth 100000 in
set_option maxHeartbeats 8000000 in
theorem names_law (w : World) (hT : Tabs w) : Calls Tryd.prog 8 #[] w fun e w' => e = .returned (.bool true) ∧ Below w.heap.size w w' := by
  have ca := grows_awake hT
  have cE := fun W hW => new_ok emT W (by decide) (by kernel_rfl) (tabs_below hT hW)
  have cN := fun W hW => new_ok nmT W (by decide) nmV (tabs_below hT hW)
  have cZ := fun W hW => new_ok (zs 65536) W (by rw [zs_size]; omega) (zs_valid 65536) (tabs_below hT hW)
  have cB := fun W => new_big (zs 65537) W (by rw [zs_size]; omega)
  obtain ⟨Z1, hZ1⟩ : ∃ z, zs 65536 = z := ⟨_, rfl⟩
  obtain ⟨Z2, hZ2⟩ : ∃ z, zs 65537 = z := ⟨_, rfl⟩
  have m1 : ∀ W : World, ∃ W', (Instr.makeSlice 56 (.int .i64 65536) (.int .i64 65536)).run Tryd.prog W = .ok (.slice (some ⟨W.heap.size, 0, none⟩) 65536 65536) W' ∧ Below W.heap.size W W' ∧ (convert 56 9 (.slice (some ⟨W.heap.size, 0, none⟩) 65536 65536)).run Tryd.prog W' = .ok (.string Z1) W' := fun W => by
    have := made_zs W 65536 (by omega)
    rw [hZ1] at this
    rw [show ((65536 : Nat) : Int) = 65536 from by omega] at this
    exact this
  have m2 : ∀ W : World, ∃ W', (Instr.makeSlice 56 (.int .i64 65537) (.int .i64 65537)).run Tryd.prog W = .ok (.slice (some ⟨W.heap.size, 0, none⟩) 65537 65537) W' ∧ Below W.heap.size W W' ∧ (convert 56 9 (.slice (some ⟨W.heap.size, 0, none⟩) 65537 65537)).run Tryd.prog W' = .ok (.string Z2) W' := fun W => by
    have := made_zs W 65537 (by omega)
    rw [hZ2] at this
    rw [show ((65537 : Nat) : Int) = 65537 from by omega] at this
    exact this
  rw [hZ1] at cZ
  rw [hZ2] at cB
  have h0 := Below.refl w.heap.size w
  have M1 := Lib.hid m1
  have M2 := Lib.hid m2
  have CZ := Lib.hid cZ
  have CB := Lib.hid cB
  have CE := Lib.hid cE
  have CN := Lib.hid cN
  clear hT hZ1 hZ2 m1 m2 cZ cB cE cN
  go_enter Tryd.func8, Tryd.ntmps8
  go_wp2_with (fail)
  refine (line_nil 0 _).mono ?_
  rintro e w1 ⟨rfl, hb1⟩
  have h1p := h0.trans (hb1.mono h0.size)
  have h1 := h1p.alloc h1p.size (.cells #[.int .i64 0, .int .i64 0] 32)
  go_wp2_with (fail)
  obtain ⟨v1, hv1⟩ : ∃ W, w1.alloc (.cells #[.int .i64 0, .int .i64 0] 32) = W := ⟨_, rfl⟩
  rw [hv1] at h1 ⊢
  clear hv1 hb1 h1p h0
  refine (offset_nil 0 0 _).mono ?_
  rintro e w2 ⟨rfl, hb2⟩
  have h2p := h1.trans (hb2.mono h1.size)
  have h2 := h2p
  clear hb2 h2p h1
  go_wp2_with (fail)
  refine (pos_nil 0 _).mono ?_
  rintro e w3 ⟨rfl, hb3⟩
  have h3p := h2.trans (hb3.mono h2.size)
  have h3 := h3p.alloc h3p.size (.cells #[.int .i64 0, .int .i64 0] 37)
  go_wp2_with (fail)
  obtain ⟨v3, hv3⟩ : ∃ W, w3.alloc (.cells #[.int .i64 0, .int .i64 0] 37) = W := ⟨_, rfl⟩
  rw [hv3] at h3 ⊢
  clear hv3 hb3 h3p h2
  refine (span_nil _).mono ?_
  rintro e w4 ⟨rfl, hb4⟩
  have h4p := h3.trans (hb4.mono h3.size)
  have h4 := h4p.alloc h4p.size (.cells #[.int .i64 0, .int .i64 0] 32)
  go_wp2_with (fail)
  obtain ⟨v4, hv4⟩ : ∃ W, w4.alloc (.cells #[.int .i64 0, .int .i64 0] 32) = W := ⟨_, rfl⟩
  rw [hv4] at h4 ⊢
  clear hv4 hb4 h4p h3
  refine (range_nil _).mono ?_
  rintro e w5 ⟨rfl, hb5⟩
  have h5p := h4.trans (hb5.mono h4.size)
  have h5 := h5p.alloc h5p.size (.cells #[.int .i64 0, .int .i64 0, .int .i64 0, .int .i64 0] 47)
  go_wp2_with (fail)
  obtain ⟨v5, hv5⟩ : ∃ W, w5.alloc (.cells #[.int .i64 0, .int .i64 0, .int .i64 0, .int .i64 0] 47) = W := ⟨_, rfl⟩
  rw [hv5] at h5 ⊢
  clear hv5 hb5 h5p h4
  refine (CE.out _ h5).mono ?_
  rintro e w6 ⟨be, ge, ce, rfl, hb6, hIe, hx1, hx2⟩
  have h6 := h5.trans (hb6.mono h5.size)
  have cLe := hIe.lines
  rw [emS] at cLe
  have e6 := Below.refl w6.heap.size w6
  clear hIe hx1 hx2 hb6 h5
  obtain ⟨wm1, mk1, hm1, cv1⟩ := M1.out w6
  have h6m := h6.trans (hm1.mono h6.size)
  have e6m := e6.trans (hm1.mono e6.size)
  go_wp2_with (fail)
  clear mk1 cv1
  refine (CZ.out _ h6m).mono ?_
  rintro e w7 ⟨bz, gz, cz, rfl, hb7, hIz, hx1, hx2⟩
  have h7 := h6m.trans (hb7.mono h6m.size)
  have e7 := e6m.trans (hb7.mono e6m.size)
  clear hIz hx1 hx2 hb7 h6 e6 h6m e6m hm1
  obtain ⟨wm2, mk2, hm2, cv2⟩ := M2.out w7
  have h7m := h7.trans (hm2.mono h7.size)
  have e7m := e7.trans (hm2.mono e7.size)
  go_wp2_with (fail)
  clear mk2 cv2
  refine (CB.out _).mono ?_
  rintro e w8 ⟨rfl, hb8⟩
  have h8 := h7m.trans (hb8.mono h7m.size)
  have e8 := e7m.trans (hb8.mono e7m.size)
  clear hb8 h7 e7 h7m e7m hm2
  go_wp2_with (fail)
  refine (CN.out _ h8).mono ?_
  rintro e w9 ⟨bn, gn, cn, rfl, hb9, hIn, hx1, hx2⟩
  have h9 := h8.trans (hb9.mono h8.size)
  have e9 := e8.trans (hb9.mono e8.size)
  have cLn := hIn.lines
  rw [nmS] at cLn
  have c14 := hIn.line 3 (4, 4) (by rw [nmS]; rfl)
  have c16 := hIn.pos (by decide) 2
  rw [nmP] at c16
  have c15 := hIn.offset (by decide) 1 0
  rw [nmO] at c15
  have c20 : Grows 20 #[.pointer (some ⟨bn, 0, none⟩), .agg #[.int .i64 2, .int .i64 0, .int .i64 1, .int .i64 0]] w9 _ := grows_idx hIn fun W hW => span_v (w := W) nmT.data.toList 2 0 1 0 (fun a b => hW.offset (by decide) a b)
  rw [nmSp] at c20
  have c22 : Grows 22 #[.pointer (some ⟨bn, 0, none⟩), .agg #[.int .i64 2, .int .i64 1]] w9 _ := grows_idx hIn fun W hW => range_v (w := W) nmT.data.toList 2 1 (fun a => hW.pos (by decide) a)
  rw [nmR] at c22
  have cLe2 := cLe.on e9
  have ca2 := ca.on h9
  have n9 := Below.refl w9.heap.size w9
  have hw9 := h9
  clear hIn hx1 hx2 hb9 h8 e8 e9 cLe ca
  go_wp2_with (fail)
  refine (c14 _ n9).mono ?_
  rintro e w10 ⟨rfl, hb10⟩
  have n10p := n9.trans (hb10.mono n9.size)
  have n10 := n10p.alloc n10p.size (.cells #[.int .i64 4, .int .i64 4] 32)
  have HL_10s := bx_new w10 (.int .i64 4) (.int .i64 4) 32
  go_wp2_with (fail)
  obtain ⟨v10, hv10⟩ : ∃ W, w10.alloc (.cells #[.int .i64 4, .int .i64 4] 32) = W := ⟨_, rfl⟩
  obtain ⟨B10, hB10⟩ : ∃ x, w10.heap.size = x := ⟨_, rfl⟩
  rw [hv10] at n10 HL_10s ⊢
  rw [hB10] at HL_10s ⊢
  clear hB10
  have HL_10 := Lib.hid HL_10s
  clear hv10 hb10 n10p n9 HL_10s 
  refine (c16 _ n10).mono ?_
  rintro e w11 ⟨rfl, hb11⟩
  have n11p := n10.trans (hb11.mono n10.size)
  have HL_11s := (HL_10.out.below hb11 (Nat.le_refl _)).alloc (.cells #[.int .i64 1, .int .i64 0] 37)
  have n11 := n11p.alloc n11p.size (.cells #[.int .i64 1, .int .i64 0] 37)
  have HK_11s := bx_new w11 (.int .i64 1) (.int .i64 0) 37
  go_wp2_with (fail)
  obtain ⟨v11, hv11⟩ : ∃ W, w11.alloc (.cells #[.int .i64 1, .int .i64 0] 37) = W := ⟨_, rfl⟩
  obtain ⟨B11, hB11⟩ : ∃ x, w11.heap.size = x := ⟨_, rfl⟩
  rw [hv11] at n11 HL_11s HK_11s ⊢
  rw [hB11] at HK_11s ⊢
  clear hB11
  have HL_11 := Lib.hid HL_11s
  have HK_11 := Lib.hid HK_11s
  clear hv11 hb11 n11p n10 HL_11s HK_11s HL_10
  refine (c15 _ n11).mono ?_
  rintro e w12 ⟨rfl, hb12⟩
  have n12p := n11.trans (hb12.mono n11.size)
  have HL_12s := (HL_11.out.below hb12 (Nat.le_refl _))
  have HK_12s := (HK_11.out.below hb12 (Nat.le_refl _))
  have n12 := n12p
  have HL_12 := Lib.hid HL_12s
  have HK_12 := Lib.hid HK_12s
  clear hb12 n12p n11 HL_12s HK_12s HL_11 HK_11
  go_wp2_with (fail)
  refine (c20 _ n12).mono ?_
  rintro e w13 ⟨rfl, hb13⟩
  have n13p := n12.trans (hb13.mono n12.size)
  have HL_13s := (HL_12.out.below hb13 (Nat.le_refl _)).alloc (.cells #[.int .i64 0, .int .i64 0] 32)
  have HK_13s := (HK_12.out.below hb13 (Nat.le_refl _)).alloc (.cells #[.int .i64 0, .int .i64 0] 32)
  have n13 := n13p.alloc n13p.size (.cells #[.int .i64 0, .int .i64 0] 32)
  go_wp2_with (fail)
  obtain ⟨v13, hv13⟩ : ∃ W, w13.alloc (.cells #[.int .i64 0, .int .i64 0] 32) = W := ⟨_, rfl⟩
  rw [hv13] at n13 HL_13s HK_13s ⊢
  have HL_13 := Lib.hid HL_13s
  have HK_13 := Lib.hid HK_13s
  clear hv13 hb13 n13p n12 HL_13s HK_13s HL_12 HK_12
  refine (c22 _ n13).mono ?_
  rintro e w14 ⟨rfl, hb14⟩
  have n14p := n13.trans (hb14.mono n13.size)
  have n14 := n14p.alloc n14p.size (.cells #[.int .i64 0, .int .i64 0, .int .i64 0, .int .i64 0] 47)
  have HL_13t := Lib.hid ((HL_13.out.below hb14 (Nat.le_refl _)).alloc (.cells #[.int .i64 0, .int .i64 0, .int .i64 0, .int .i64 0] 47))
  have HK_13t := Lib.hid ((HK_13.out.below hb14 (Nat.le_refl _)).alloc (.cells #[.int .i64 0, .int .i64 0, .int .i64 0, .int .i64 0] 47))
  clear hb14 n14p n13 HL_13 HK_13
  go_wp2_with (fail)
  refine (lines_nil _).mono ?_
  rintro e wn ⟨rfl, rfl⟩
  go_wp2_with (fail)
  refine (cLe2 _ n14).mono ?_
  rintro e wx ⟨rfl, hbx⟩
  have nx := n14.trans (hbx.mono n14.size)
  have HL_13tx := Lib.hid (HL_13t.out.below hbx (Nat.le_refl _))
  have HK_13tx := Lib.hid (HK_13t.out.below hbx (Nat.le_refl _))
  go_wp2_with (fail)
  refine (cLn _ nx).mono ?_
  rintro e wy ⟨rfl, hby⟩
  have ny := nx.trans (hby.mono nx.size)
  obtain ⟨z0a, z0b, _, _⟩ := HL_13tx.out.below hby (Nat.le_refl _)
  obtain ⟨z1a, z1b, _, _⟩ := HK_13tx.out.below hby (Nat.le_refl _)
  go_wp2_with (fail)
  refine (ca2 _ ny).mono ?_
  rintro e wl ⟨rfl, hbl⟩
  go_wp2
  go_ret
  exact ⟨rfl, hw9.trans ((ny.trans (hbl.mono ny.size)).mono hw9.size)⟩
end Go.Proofs.YtkhbggihgodpkaaDoor
