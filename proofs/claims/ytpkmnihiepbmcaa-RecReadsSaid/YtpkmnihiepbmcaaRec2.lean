/-
  Records: the tables' bytes.
-/
import Derived.Test.YtpkmnihiepbmcaaRec1
import Derived.Deep.RegionHeld3
import Derived.Deep.MidRow
import Derived.Laws.BitsLemmas
namespace Go.Proofs.Ytpkmnihiepbmcaa
open Go.RowKit
open PRec (Rec Drt Atx)
theorem box4 {W : World} {b : Nat} {v0 v1 v2 v3 : Value} {t : TypeId} {fz : Nat × Nat} (h : W.heap[b]? = some (.cells #[v0, v1, v2, v3] t fz)) :
    W.cell? ⟨b, 0, none⟩ = some v0 ∧ W.cell? ⟨b, 1, none⟩ = some v1 ∧ W.cell? ⟨b, 2, none⟩ = some v2 ∧ W.cell? ⟨b, 3, none⟩ = some v3 := by
  simp [World.cell?, h]
theorem box2 {W : World} {b : Nat} {v0 v1 : Value} {t : TypeId} {fz : Nat × Nat} (h : W.heap[b]? = some (.cells #[v0, v1] t fz)) :
    W.cell? ⟨b, 0, none⟩ = some v0 ∧ W.cell? ⟨b, 1, none⟩ = some v1 := by
  simp [World.cell?, h]
theorem app_l (x y : List UInt8) : (⟨x.toArray⟩ : ByteArray) ++ ⟨y.toArray⟩ = ⟨(x ++ y).toArray⟩ := by rw [app_mk]
theorem size_app (t : ByteArray) (l : List UInt8) : (t ++ (⟨l.toArray⟩ : ByteArray)).size = t.size + l.length := by rw [ByteArray.size_append]; simp [size_mk]
theorem and255 (n : Nat) (h : n < 9223372036854775808) : bits BinOp.and .i64 (n : Int) 255 = ((n % 256 : Nat) : Int) := by
  have h2 := bits_mask .i64 63 (by decide) (fun x h0 h1 => by rw [IntKind.wrap_i64]; omega) 8 (by decide) (n : Int) (by omega) (by omega)
  have e : ((2 : Int) ^ 8 - 1) = 255 := by decide
  have e2 : ((2 : Int) ^ 8) = 256 := by decide
  rw [e, e2] at h2
  rw [h2]
  omega
theorem put9_8 (n : Nat) (hn : n < 18446744073709551616) (w : World) : Calls Try.prog 32 #[.int .u64 n, .int .i64 8] w fun e w' => e = .returned (.string ⟨(PWord.be 8 n).toArray⟩) ∧ Below w.heap.size w w' := put9_any n 8 (by omega) (by omega) hn w
theorem put9_4 (n : Nat) (hn : n < 4294967296) (w : World) : Calls Try.prog 32 #[.int .u64 n, .int .i64 4] w fun e w' => e = .returned (.string ⟨(PWord.be 4 n).toArray⟩) ∧ Below w.heap.size w w' := put9_any n 4 (by omega) (by omega) hn w
theorem put9_2 (n : Nat) (hn : n < 65536) (w : World) : Calls Try.prog 32 #[.int .u64 n, .int .i64 2] w fun e w' => e = .returned (.string ⟨(PWord.be 2 n).toArray⟩) ∧ Below w.heap.size w w' := put9_any n 2 (by omega) (by omega) hn w
theorem put9_1 (n : Nat) (hn : n < 256) (w : World) : Calls Try.prog 32 #[.int .u64 n, .int .i64 1] w fun e w' => e = .returned (.string ⟨(PWord.be 1 n).toArray⟩) ∧ Below w.heap.size w w' := put9_any n 1 (by omega) (by omega) hn w
attribute [local go_sem] PWord.be_length
set_option maxHeartbeats 4000000 in
theorem tables_any (r : Rec) (hok : r.Ok) (hDl : r.dirty.length ≤ 1000) (hTl : r.txns.length ≤ 1000) (vd vt : Value) (w : World) (h : RecIn w r vd vt) : Calls Try.prog 33 #[.agg #[vd, vt, .int .u64 r.ttx, .int .u64 r.tnum]] w fun e w' => e = .returned (.string ⟨(PRec.tabs r).toArray⟩) ∧ Below w.heap.size w w' := by
  obtain ⟨pd, cd, rfl, hd1, hd2⟩ := h.1.form
  obtain ⟨pt, ct, rfl, ht1, ht2⟩ := h.2.form
  have HD := Lib.hid h.1
  have HT := Lib.hid h.2
  have HOD := Lib.hid hok.2.2.2.2.2.2.2.1
  have HOT := Lib.hid hok.2.2.2.2.2.2.2.2.1
  have hx := hok.2.2.2.2.2.2.2.2.2
  have hx1 := hx.1
  have hx2 := hx.2
  unfold maxLen at hd2 ht2
  have HF : Hid (PRec.tabs r = PWord.be 8 r.ttx ++ PWord.be 8 r.tnum ++ PWord.be 1 (r.dirty.length % 256) ++ r.dirty.flatMap PRec.dirtyB ++ PWord.be 1 (r.txns.length % 256) ++ r.txns.flatMap PRec.txnB) := Lib.hid rfl
  clear h hok hx
  generalize r.dirty = D at *
  generalize r.txns = T at *
  generalize r.ttx = tx at *
  generalize r.tnum = tn at *
  have hm1 : D.length % 256 < 256 := by omega
  have hm2 : T.length % 256 < 256 := by omega
  have ha1 : bits BinOp.and .i64 (D.length : Int) 255 = ((D.length % 256 : Nat) : Int) := and255 _ (by omega)
  have ha2 : bits BinOp.and .i64 (T.length : Int) 255 = ((T.length % 256 : Nat) : Int) := and255 _ (by omega)
  have hw1 : IntKind.u64.wrap ((D.length % 256 : Nat) : Int) = ((D.length % 256 : Nat) : Int) := by rw [IntKind.wrap_u64]; omega
  have hw2 : IntKind.u64.wrap ((T.length % 256 : Nat) : Int) = ((T.length % 256 : Nat) : Int) := by rw [IntKind.wrap_u64]; omega
  generalize D.length % 256 = md at *
  generalize T.length % 256 = mt at *
  have hN : ((w.alloc (.cells #[.slice pd D.length cd, .slice pt T.length ct, .int .u64 tx, .int .u64 tn] 30)).drew).heap[w.heap.size]? = some (.cells #[.slice pd D.length cd, .slice pt T.length ct, .int .u64 tx, .int .u64 tn] 30 (0, 0)) := heap_alloc_new w _
  have HB := Lib.hid (((Below.refl w.heap.size w).alloc (Nat.le_refl _) (.cells #[.slice pd D.length cd, .slice pt T.length ct, .int .u64 tx, .int .u64 tn] 30)).drew)
  go_enter Try.func33, Try.ntmps33
  go_wp2_with fail
  go_region_held3 (fun w' => w'.cell? ⟨w.heap.size, 0, none⟩ = some (.slice pd D.length cd) ∧ w'.cell? ⟨w.heap.size, 2, none⟩ = some (.int .u64 tx) ∧ w'.cell? ⟨w.heap.size, 3, none⟩ = some (.int .u64 tn))
    (first | exact ⟨(box4 hN).1, (box4 hN).2.2.1, (box4 hN).2.2.2⟩ | go_keep)
    (first
      | (go_at_call 32; (first | with_reducible refine (put9_8 tx hx1 _).mono ?_ | with_reducible refine (put9_8 tn hx2 _).mono ?_ | with_reducible refine (put9_1 md hm1 _).mono ?_); rintro e w2 ⟨rfl, hb⟩; have hlt := (Array.getElem?_eq_some_iff.1 hN).1; replace hN := (hb.block _ hlt).trans hN; replace HB := Lib.hid (HB.out.step hb); clear hb hlt))
  obtain ⟨t0, ht0⟩ : ∃ t : ByteArray, (⟨(PWord.be 8 tx).toArray⟩ : ByteArray) ++ ⟨(PWord.be 8 tn).toArray⟩ ++ ⟨(PWord.be 1 md).toArray⟩ = t := ⟨_, rfl⟩
  have HT0 : Hid (t0 = ⟨(PWord.be 8 tx ++ PWord.be 8 tn ++ PWord.be 1 md).toArray⟩) := Lib.hid (by rw [← ht0, app_l, app_l])
  have hz0 : (t0.size : Int) = 17 := by rw [HT0.out, size_mk]; simp [PWord.be_length]
  rw [ht0]
  have hc0 := (box4 hN).1
  have HBX := Lib.hid hN
  clear hN ht0
  go_wp2
  go_loopw [3, 25] (fun sv iv wr => ∃ (k : Nat) (t : ByteArray), k ≤ D.length ∧ iv = .int .i64 k ∧ sv = .string t ∧ (t.size : Int) = 17 + 12 * k ∧ Hid (t = ⟨(PWord.be 8 tx ++ PWord.be 8 tn ++ PWord.be 1 md ++ (D.take k).flatMap PRec.dirtyB).toArray⟩) ∧ Hid (Below w.heap.size w wr ∧ wr.heap[w.heap.size]? = some (.cells #[.slice pd D.length cd, .slice pt T.length ct, .int .u64 tx, .int .u64 tn] 30 (0, 0)))) (fun _ iv _ => D.length - (intOf iv).toNat)
  case atStart => exact ⟨0, t0, by omega, rfl, rfl, by omega, Lib.hid (by rw [HT0.out]; simp), Lib.hid ⟨HB.out, HBX.out⟩⟩
  case round =>
    clear hz0 HT0 HBX HB hc0
    obtain ⟨k, t, hk, rfl, rfl, hz, HTK, HW⟩ := hrel
    by_cases hlt : k < D.length
    · obtain ⟨g, off, rfl, hg, c0, c1⟩ := dirty_cells (HD.out.step HW.out.1) hlt
      have hdk := HOD.out D[k] (List.getElem_mem hlt)
      have HTN : Hid ((D.take (k + 1)).flatMap PRec.dirtyB = (D.take k).flatMap PRec.dirtyB ++ PRec.dirtyB D[k]) := Lib.hid (by rw [List.take_succ_eq_append_getElem hlt, List.flatMap_append, List.flatMap_cons, List.flatMap_nil, List.append_nil])
      generalize D[k] = d at *
      obtain ⟨pg, si⟩ := d
      obtain ⟨q1, q2⟩ := hdk
      dsimp only at q1 q2 c0 c1
      have i0 : (0 : Int) ≤ k := by omega
      have i1 : (k : Int) < D.length := by omega
      have hwp : IntKind.u64.wrap (pg : Int) = pg := by rw [IntKind.wrap_u64]; omega
      have hsm : ¬ (9223372036854775795 < t.size) := by omega
      have hsm2 : ¬ (9223372036854775807 < t.size + 12) := by omega
      have hN : ((wr.alloc (.cells #[.int .u32 pg, .int .u64 si] 52)).drew).heap[wr.heap.size]? = some (.cells #[.int .u32 pg, .int .u64 si] 52 (0, 0)) := heap_alloc_new wr _
      have HB := Lib.hid (((Below.refl wr.heap.size wr).alloc (Nat.le_refl _) (.cells #[.int .u32 pg, .int .u64 si] 52)).drew)
      go_wp2_with fail
      go_region_held3 (fun w' => w'.cell? ⟨wr.heap.size, 0, none⟩ = some (.int .u32 pg) ∧ w'.cell? ⟨wr.heap.size, 1, none⟩ = some (.int .u64 si))
        (first | exact ⟨(box2 hN).1, (box2 hN).2⟩ | go_keep)
        (first
          | (go_at_call 32; (first | with_reducible refine (put9_4 pg q1 _).mono ?_ | with_reducible refine (put9_8 si q2 _).mono ?_); rintro e w2 ⟨rfl, hb⟩; have hlt2 := (Array.getElem?_eq_some_iff.1 hN).1; replace hN := (hb.block _ hlt2).trans hN; replace HB := Lib.hid (HB.out.step hb); clear hb hlt2))
      have HBX := Lib.hid hN
      clear hN
      go_wp2
      refine ⟨⟨k + 1, _, by omega, by go_num, rfl, ?_, Lib.hid ?_, Lib.hid ⟨HW.out.1.step HB.out, (HB.out.block _ (Array.getElem?_eq_some_iff.1 HW.out.2).1).trans HW.out.2⟩⟩, by simp [intOf]; omega⟩
      · rw [app_l (PWord.be 4 pg) (PWord.be 8 si), size_app, List.length_append, PWord.be_length, PWord.be_length]; omega
      · rw [HTK.out, HTN.out, app_l, app_l]; simp [PRec.dirtyB, List.append_assoc]
    · have hkn : k = D.length := by omega
      subst hkn
      have i1 : ¬ (D.length : Int) < D.length := by omega
      rw [List.take_length] at HTK
      have hc1 := (box4 HW.out.2).2.1
      go_wp2_with fail
      refine (put9_1 mt hm2 _).mono ?_
      rintro e w3 ⟨rfl, hb⟩
      replace HW := Lib.hid (show Below w.heap.size w w3 ∧ w3.heap[w.heap.size]? = some (.cells #[.slice pd D.length cd, .slice pt T.length ct, .int .u64 tx, .int .u64 tn] 30 (0, 0)) from ⟨HW.out.1.step hb, (hb.block _ (Array.getElem?_eq_some_iff.1 HW.out.2).1).trans HW.out.2⟩)
      replace hc1 := (box4 HW.out.2).2.1
      clear hb
      go_wp2
      have hz1 : ((t ++ (⟨(PWord.be 1 mt).toArray⟩ : ByteArray)).size : Int) = 18 + 12 * D.length := by rw [size_app, PWord.be_length]; omega
      have HT1 : Hid (t ++ (⟨(PWord.be 1 mt).toArray⟩ : ByteArray) = ⟨(PWord.be 8 tx ++ PWord.be 8 tn ++ PWord.be 1 md ++ D.flatMap PRec.dirtyB ++ PWord.be 1 mt).toArray⟩) := Lib.hid (by rw [HTK.out, app_l])
      generalize t ++ (⟨(PWord.be 1 mt).toArray⟩ : ByteArray) = t1 at *
      clear hz HTK hc1 hk hlt i1
      go_loopw [3, 51] (fun sv iv wt => ∃ (k : Nat) (t : ByteArray), k ≤ T.length ∧ iv = .int .i64 k ∧ sv = .string t ∧ (t.size : Int) = 18 + 12 * D.length + 32 * k ∧ Hid (t = ⟨(PWord.be 8 tx ++ PWord.be 8 tn ++ PWord.be 1 md ++ D.flatMap PRec.dirtyB ++ PWord.be 1 mt ++ (T.take k).flatMap PRec.txnB).toArray⟩) ∧ Hid (Below w.heap.size w wt ∧ wt.heap[w.heap.size]? = some (.cells #[.slice pd D.length cd, .slice pt T.length ct, .int .u64 tx, .int .u64 tn] 30 (0, 0)))) (fun _ iv _ => T.length - (intOf iv).toNat)
      case atStart => exact ⟨0, t1, by omega, rfl, rfl, by omega, Lib.hid (by rw [HT1.out]; simp), HW⟩
      case round =>
        clear hz1 HT1 HW
        obtain ⟨k, t, hk, rfl, rfl, hz, HTK, HW⟩ := hrel
        by_cases hlt : k < T.length
        · obtain ⟨g, off, rfl, hg, c0, c1, c2, c3⟩ := txns_cells (HT.out.step HW.out.1) hlt
          have hdk := HOT.out T[k] (List.getElem_mem hlt)
          have HTN : Hid ((T.take (k + 1)).flatMap PRec.txnB = (T.take k).flatMap PRec.txnB ++ PRec.txnB T[k]) := Lib.hid (by rw [List.take_succ_eq_append_getElem hlt, List.flatMap_append, List.flatMap_cons, List.flatMap_nil, List.append_nil])
          generalize T[k] = d at *
          obtain ⟨xt, xf, xl, xn⟩ := d
          obtain ⟨q1, q2, q3, q4⟩ := hdk
          dsimp only at q1 q2 q3 q4 c0 c1 c2 c3
          have i0 : (0 : Int) ≤ k := by omega
          have i1 : (k : Int) < T.length := by omega
          have hsm : ¬ (9223372036854775775 < t.size) := by omega
          have hsm2 : ¬ (9223372036854775807 < t.size + 32) := by omega
          have hN : ((wr.alloc (.cells #[.int .u64 xt, .int .u64 xf, .int .u64 xl, .int .u64 xn] 54)).drew).heap[wr.heap.size]? = some (.cells #[.int .u64 xt, .int .u64 xf, .int .u64 xl, .int .u64 xn] 54 (0, 0)) := heap_alloc_new wr _
          have HB := Lib.hid (((Below.refl wr.heap.size wr).alloc (Nat.le_refl _) (.cells #[.int .u64 xt, .int .u64 xf, .int .u64 xl, .int .u64 xn] 54)).drew)
          go_wp2_with fail
          go_region_held3 (fun w' => w'.cell? ⟨wr.heap.size, 0, none⟩ = some (.int .u64 xt) ∧ w'.cell? ⟨wr.heap.size, 1, none⟩ = some (.int .u64 xf) ∧ w'.cell? ⟨wr.heap.size, 2, none⟩ = some (.int .u64 xl) ∧ w'.cell? ⟨wr.heap.size, 3, none⟩ = some (.int .u64 xn))
            (first | exact box4 hN | go_keep)
            (first
              | (go_at_call 32; (first | with_reducible refine (put9_8 xt q1 _).mono ?_ | with_reducible refine (put9_8 xf q2 _).mono ?_ | with_reducible refine (put9_8 xl q3 _).mono ?_ | with_reducible refine (put9_8 xn q4 _).mono ?_); rintro e w2 ⟨rfl, hb⟩; have hlt2 := (Array.getElem?_eq_some_iff.1 hN).1; replace hN := (hb.block _ hlt2).trans hN; replace HB := Lib.hid (HB.out.step hb); clear hb hlt2))
          have HBX := Lib.hid hN
          clear hN
          go_wp2
          refine ⟨⟨k + 1, _, by omega, by go_num, rfl, ?_, Lib.hid ?_, Lib.hid ⟨HW.out.1.step HB.out, (HB.out.block _ (Array.getElem?_eq_some_iff.1 HW.out.2).1).trans HW.out.2⟩⟩, by simp [intOf]; omega⟩
          · rw [app_l (PWord.be 8 xt) (PWord.be 8 xf), app_l (PWord.be 8 xt ++ PWord.be 8 xf) (PWord.be 8 xl), app_l (PWord.be 8 xt ++ PWord.be 8 xf ++ PWord.be 8 xl) (PWord.be 8 xn), size_app]; simp only [List.length_append, PWord.be_length]; omega
          · rw [HTK.out, HTN.out, app_l, app_l, app_l, app_l]; simp [PRec.txnB, List.append_assoc]
        · have hkn : k = T.length := by omega
          subst hkn
          have i1 : ¬ (T.length : Int) < T.length := by omega
          rw [List.take_length] at HTK
          go_wp2
          go_ret
          exact ⟨ret_str (by rw [HF.out, HTK.out]), HW.out.1⟩
end Go.Proofs.Ytpkmnihiepbmcaa
