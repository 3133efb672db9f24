/-
  Records, the document's answer: Encode.
-/
import Derived.Test.YtpkmnihiepbmcaaRfc
import Derived.Test.YtpkmnihiepbmcaaRec2
namespace Go.Proofs.Ytpkmnihiepbmcaa
open Go.RowKit
open PRec (Rec Drt Atx)
theorem rput_8 (n : Nat) (hn : n < 18446744073709551616) (w : World) : Calls Try.prog 20 #[.int .u64 n, .int .i64 8] w fun e w' => e = .returned (.string ⟨(PWord.be 8 n).toArray⟩) ∧ Below w.heap.size w w' := rput9_any n 8 (by omega) (by omega) hn w
theorem rput_4 (n : Nat) (hn : n < 4294967296) (w : World) : Calls Try.prog 20 #[.int .u64 n, .int .i64 4] w fun e w' => e = .returned (.string ⟨(PWord.be 4 n).toArray⟩) ∧ Below w.heap.size w w' := rput9_any n 4 (by omega) (by omega) hn w
theorem rput_2 (n : Nat) (hn : n < 65536) (w : World) : Calls Try.prog 20 #[.int .u64 n, .int .i64 2] w fun e w' => e = .returned (.string ⟨(PWord.be 2 n).toArray⟩) ∧ Below w.heap.size w w' := rput9_any n 2 (by omega) (by omega) hn w
theorem rput_1 (n : Nat) (hn : n < 256) (w : World) : Calls Try.prog 20 #[.int .u64 n, .int .i64 1] w fun e w' => e = .returned (.string ⟨(PWord.be 1 n).toArray⟩) ∧ Below w.heap.size w w' := rput9_any n 1 (by omega) (by omega) hn w
attribute [local go_sem] PWord.be_length
set_option maxRecDepth 20000 in
set_option maxHeartbeats 8000000 in
theorem renc_any (r : Rec) (hok : r.Ok) (hBl : r.body.length ≤ 1000000) (vd vt : Value) (w : World) (h : RecIn w r vd vt) : Calls Try.prog 11 #[rv r vd vt] w fun e w' => e = .returned (.string ⟨(PRec.enc r).toArray⟩) ∧ Below w.heap.size w w' := by
  have HIN := Lib.hid h
  have HMA := Lib.hid (fun W (hW : RecIn W r vd vt) => rmay_any r vd vt W hW)
  obtain ⟨pd, cd, rfl, hd1, hd2⟩ := h.1.form
  obtain ⟨pt, ct, rfl, ht1, ht2⟩ := h.2.form
  obtain ⟨o0, o1, o2, o3, o4, o5, o6, o8, o9, o10, o11⟩ := hok
  have HO8 := Lib.hid o8
  have HO9 := Lib.hid o9
  clear h o8 o9
  unfold maxLen at hd2 ht2
  unfold rv at *
  have hN : (w.alloc (.cells #[.int .u8 r.kind, .int .u64 r.tx, .int .u64 r.prev, .int .u32 r.page, .int .u16 r.slot, .int .u64 r.next, .int .u64 r.number, .string ⟨r.body.toArray⟩, .slice pd r.dirty.length cd, .slice pt r.txns.length ct, .int .u64 r.ttx, .int .u64 r.tnum] 32)).heap[w.heap.size]? = some (.cells #[.int .u8 r.kind, .int .u64 r.tx, .int .u64 r.prev, .int .u32 r.page, .int .u16 r.slot, .int .u64 r.next, .int .u64 r.number, .string ⟨r.body.toArray⟩, .slice pd r.dirty.length cd, .slice pt r.txns.length ct, .int .u64 r.ttx, .int .u64 r.tnum] 32 (0, 0)) := heap_alloc_new w _
  have HB := Lib.hid ((Below.refl w.heap.size w).alloc (Nat.le_refl _) (.cells #[.int .u8 r.kind, .int .u64 r.tx, .int .u64 r.prev, .int .u32 r.page, .int .u16 r.slot, .int .u64 r.next, .int .u64 r.number, .string ⟨r.body.toArray⟩, .slice pd r.dirty.length cd, .slice pt r.txns.length ct, .int .u64 r.ttx, .int .u64 r.tnum] 32))
  go_enter Try.func11, Try.ntmps11
  go_wp2_with fail
  refine (HMA.out _ (HIN.out.step HB.out)).mono ?_
  rintro e w1 ⟨rfl, hb⟩
  replace hN := (hb.block _ (Array.getElem?_eq_some_iff.1 hN).1).trans hN
  replace HB := Lib.hid (HB.out.step hb)
  clear hb HMA
  cases hm : PRec.may r
  case false =>
    have HE : Hid (PRec.enc r = []) := Lib.hid (by unfold PRec.enc; rw [hm]; rfl)
    clear hm
    go_wp2
    go_ret
    exact ⟨ret_str (by rw [HE.out]), HB.out⟩
  case true =>
    have HE : Hid (PRec.enc r = (PRec.bytes r).1) := Lib.hid (by unfold PRec.enc; rw [hm]; rfl)
    obtain ⟨_, hform⟩ := PRec.bytes_form (PRec.may_parts hm).1
    clear hm
    have hwk : IntKind.u64.wrap (r.kind : Int) = r.kind := by rw [IntKind.wrap_u64]; omega
    have hwp : IntKind.u64.wrap (r.page : Int) = r.page := by rw [IntKind.wrap_u64]; omega
    have hws : IntKind.u64.wrap (r.slot : Int) = r.slot := by rw [IntKind.wrap_u64]; omega
    replace hN := (show w1.drew.heap[w.heap.size]? = _ from hN)
    replace HB := Lib.hid HB.out.drew
    go_upto_region 3 with fail
    go_cut [3] (fun s3 wx => ∃ t : ByteArray, s3 = .string t ∧ t.size = 17 ∧ Hid (t = ⟨(PRec.head r).toArray⟩) ∧ Hid (Below w.heap.size w wx ∧ wx.heap[w.heap.size]? = some (.cells #[.int .u8 r.kind, .int .u64 r.tx, .int .u64 r.prev, .int .u32 r.page, .int .u16 r.slot, .int .u64 r.next, .int .u64 r.number, .string ⟨r.body.toArray⟩, .slice pd r.dirty.length cd, .slice pt r.txns.length ct, .int .u64 r.ttx, .int .u64 r.tnum] 32 (0, 0))))
    case first =>
      go_region_held3 (fun w' => w'.cell? ⟨w.heap.size, 0, none⟩ = some (.int .u8 r.kind) ∧ w'.cell? ⟨w.heap.size, 1, none⟩ = some (.int .u64 r.tx) ∧ w'.cell? ⟨w.heap.size, 2, none⟩ = some (.int .u64 r.prev))
        (first | exact ⟨(box12d hN).1, (box12d hN).2.1, (box12d hN).2.2.1⟩ | go_keep)
        (first
          | (go_at_call 20; (first | with_reducible refine (rput_8 r.tx o1 _).mono ?_ | with_reducible refine (rput_8 r.prev o2 _).mono ?_ | with_reducible refine (rput_1 r.kind o0 _).mono ?_); rintro e w3 ⟨rfl, hb⟩; have hlt2 := (Array.getElem?_eq_some_iff.1 hN).1; replace hN := (hb.block _ hlt2).trans hN; replace HB := Lib.hid (HB.out.step hb); clear hb hlt2))
      have HN2 := Lib.hid hN
      clear hN
      go_wp2_with fail
      go_meet
      refine ⟨_, rfl, ?_, Lib.hid ?_, Lib.hid ⟨HB.out, HN2.out⟩⟩
      · rw [app_l (PWord.be 1 r.kind) (PWord.be 8 r.tx), size_app, size_mk]; simp [PWord.be_length]
      · rw [app_l (PWord.be 1 r.kind) (PWord.be 8 r.tx), app_l]; rfl
    case rest =>
      clear HB hN
      obtain ⟨t, rfl, ht, HT, HW⟩ := hcut
      obtain ⟨w2, hw2⟩ : ∃ x, x = wc := ⟨_, rfl⟩
      subst hw2
      obtain ⟨c0, c1, c2, c3, c4, c5, c6, c7, c8, c9, c10, c11⟩ := box12d HW.out.2
      have hbs : ∀ n : Nat, n ≤ 100 → ¬ (9223372036854775807 < n + r.body.length) ∧ ¬ (9223372036854775807 - n < r.body.length) := fun n hn => by omega
      have HBS := Lib.hid hbs
      clear hbs
      rcases hform with ⟨hk, hv⟩ | ⟨hk, hv, _⟩ | ⟨hk, hv, _⟩ | ⟨hk, hv, _⟩ | ⟨hk, hv, _⟩ | ⟨hk, hv, hfit⟩
      · have HV : Hid (PRec.enc r = _) := Lib.hid (HE.out.trans hv)
        have k2 : ((r.kind : Int) == 2) = false := by simp; omega
        have k6 : ((r.kind : Int) == 6) = false := by simp; omega
        have k3 : ((r.kind : Int) == 3) = false := by simp; omega
        have k4 : ((r.kind : Int) == 4) = false := by simp; omega
        have k8 : ((r.kind : Int) == 8) = false := by simp; omega
        clear hk hv HE
        go_wp2
        go_ret
        exact ⟨ret_str (by rw [HV.out, HT.out]), HW.out.1⟩
      · have HV : Hid (PRec.enc r = _) := Lib.hid (HE.out.trans hv)
        have k2 : ((r.kind : Int) == 2) = true := by simp; omega
        have k6 : ((r.kind : Int) == 6) = false := by simp; omega
        have k3 : ((r.kind : Int) == 3) = false := by simp; omega
        have k4 : ((r.kind : Int) == 4) = false := by simp; omega
        have k8 : ((r.kind : Int) == 8) = false := by simp; omega
        clear hk hv HE
        have hs1 := (HBS.out 23 (by omega)).1
        have hs2 := (HBS.out 23 (by omega)).2
        have hN : w2.drew.heap[w.heap.size]? = some (.cells #[.int .u8 r.kind, .int .u64 r.tx, .int .u64 r.prev, .int .u32 r.page, .int .u16 r.slot, .int .u64 r.next, .int .u64 r.number, .string ⟨r.body.toArray⟩, .slice pd r.dirty.length cd, .slice pt r.txns.length ct, .int .u64 r.ttx, .int .u64 r.tnum] 32 (0, 0)) := HW.out.2
        have HB := Lib.hid HW.out.1.drew
        go_wp2_with fail
        go_region_held3 (fun w' => w'.cell? ⟨w.heap.size, 3, none⟩ = some (.int .u32 r.page) ∧ w'.cell? ⟨w.heap.size, 4, none⟩ = some (.int .u16 r.slot) ∧ w'.cell? ⟨w.heap.size, 7, none⟩ = some (.string ⟨r.body.toArray⟩))
          (first | exact ⟨(box12d hN).2.2.2.1, (box12d hN).2.2.2.2.1, (box12d hN).2.2.2.2.2.2.2.1⟩ | go_keep)
          (first
            | (go_at_call 20; (first | with_reducible refine (rput_4 r.page o3 _).mono ?_ | with_reducible refine (rput_2 r.slot o4 _).mono ?_); rintro e w3 ⟨rfl, hb⟩; have hlt2 := (Array.getElem?_eq_some_iff.1 hN).1; replace hN := (hb.block _ hlt2).trans hN; replace HB := Lib.hid (HB.out.step hb); clear hb hlt2))
        clear hN
        go_wp2
        go_ret
        exact ⟨ret_str (by rw [HV.out, HT.out, app_l (PRec.head r) (PWord.be 4 r.page), app_l (PRec.head r ++ PWord.be 4 r.page) (PWord.be 2 r.slot), app_l (PRec.head r ++ PWord.be 4 r.page ++ PWord.be 2 r.slot) r.body]), HB.out⟩
      · have HV : Hid (PRec.enc r = _) := Lib.hid (HE.out.trans hv)
        have k2 : ((r.kind : Int) == 2) = false := by simp; omega
        have k6 : ((r.kind : Int) == 6) = true := by simp; omega
        have k3 : ((r.kind : Int) == 3) = false := by simp; omega
        have k4 : ((r.kind : Int) == 4) = false := by simp; omega
        have k8 : ((r.kind : Int) == 8) = false := by simp; omega
        clear hk hv HE
        have hs1 := (HBS.out 17 (by omega)).1
        have hs2 := (HBS.out 17 (by omega)).2
        go_wp2
        go_ret
        exact ⟨ret_str (by rw [HV.out, HT.out, app_l (PRec.head r) r.body]), HW.out.1⟩
      · have HV : Hid (PRec.enc r = _) := Lib.hid (HE.out.trans hv)
        have k2 : ((r.kind : Int) == 2) = false := by simp; omega
        have k6 : ((r.kind : Int) == 6) = false := by simp; omega
        have k3 : ((r.kind : Int) == 3) = true := by simp; omega
        have k4 : ((r.kind : Int) == 4) = false := by simp; omega
        have k8 : ((r.kind : Int) == 8) = false := by simp; omega
        clear hk hv HE
        have hs1 := (HBS.out 25 (by omega)).1
        have hs2 := (HBS.out 25 (by omega)).2
        have hN : w2.drew.heap[w.heap.size]? = some (.cells #[.int .u8 r.kind, .int .u64 r.tx, .int .u64 r.prev, .int .u32 r.page, .int .u16 r.slot, .int .u64 r.next, .int .u64 r.number, .string ⟨r.body.toArray⟩, .slice pd r.dirty.length cd, .slice pt r.txns.length ct, .int .u64 r.ttx, .int .u64 r.tnum] 32 (0, 0)) := HW.out.2
        have HB := Lib.hid HW.out.1.drew
        go_wp2_with fail
        go_region_held3 (fun w' => w'.cell? ⟨w.heap.size, 5, none⟩ = some (.int .u64 r.next) ∧ w'.cell? ⟨w.heap.size, 7, none⟩ = some (.string ⟨r.body.toArray⟩))
          (first | exact ⟨(box12d hN).2.2.2.2.2.1, (box12d hN).2.2.2.2.2.2.2.1⟩ | go_keep)
          (first
            | (go_at_call 20; (first | with_reducible refine (rput_8 r.next o5 _).mono ?_); rintro e w3 ⟨rfl, hb⟩; have hlt2 := (Array.getElem?_eq_some_iff.1 hN).1; replace hN := (hb.block _ hlt2).trans hN; replace HB := Lib.hid (HB.out.step hb); clear hb hlt2))
        clear hN
        go_wp2
        go_ret
        exact ⟨ret_str (by rw [HV.out, HT.out, app_l (PRec.head r) (PWord.be 8 r.next), app_l (PRec.head r ++ PWord.be 8 r.next) r.body]), HB.out⟩
      · have HV : Hid (PRec.enc r = _) := Lib.hid (HE.out.trans hv)
        have k2 : ((r.kind : Int) == 2) = false := by simp; omega
        have k6 : ((r.kind : Int) == 6) = false := by simp; omega
        have k3 : ((r.kind : Int) == 3) = false := by simp; omega
        have k4 : ((r.kind : Int) == 4) = true := by simp; omega
        have k8 : ((r.kind : Int) == 8) = false := by simp; omega
        clear hk hv HE
        have hs1 := (HBS.out 25 (by omega)).1
        have hs2 := (HBS.out 25 (by omega)).2
        have hN : w2.drew.heap[w.heap.size]? = some (.cells #[.int .u8 r.kind, .int .u64 r.tx, .int .u64 r.prev, .int .u32 r.page, .int .u16 r.slot, .int .u64 r.next, .int .u64 r.number, .string ⟨r.body.toArray⟩, .slice pd r.dirty.length cd, .slice pt r.txns.length ct, .int .u64 r.ttx, .int .u64 r.tnum] 32 (0, 0)) := HW.out.2
        have HB := Lib.hid HW.out.1.drew
        go_wp2_with fail
        go_region_held3 (fun w' => w'.cell? ⟨w.heap.size, 6, none⟩ = some (.int .u64 r.number) ∧ w'.cell? ⟨w.heap.size, 7, none⟩ = some (.string ⟨r.body.toArray⟩))
          (first | exact ⟨(box12d hN).2.2.2.2.2.2.1, (box12d hN).2.2.2.2.2.2.2.1⟩ | go_keep)
          (first
            | (go_at_call 20; (first | with_reducible refine (rput_8 r.number o6 _).mono ?_); rintro e w3 ⟨rfl, hb⟩; have hlt2 := (Array.getElem?_eq_some_iff.1 hN).1; replace hN := (hb.block _ hlt2).trans hN; replace HB := Lib.hid (HB.out.step hb); clear hb hlt2))
        clear hN
        go_wp2
        go_ret
        exact ⟨ret_str (by rw [HV.out, HT.out, app_l (PRec.head r) (PWord.be 8 r.number), app_l (PRec.head r ++ PWord.be 8 r.number) r.body]), HB.out⟩
      · have HV : Hid (PRec.enc r = _) := Lib.hid (HE.out.trans hv)
        have k2 : ((r.kind : Int) == 2) = false := by simp; omega
        have k6 : ((r.kind : Int) == 6) = false := by simp; omega
        have k3 : ((r.kind : Int) == 3) = false := by simp; omega
        have k4 : ((r.kind : Int) == 4) = false := by simp; omega
        have k8 : ((r.kind : Int) == 8) = true := by simp; omega
        have hfl := PRec.fits_len hfit
        clear hk hv HE
        obtain ⟨lD, lT⟩ := hfl
        clear hfit
        have HV2 : Hid (PRec.enc r = PRec.head r ++ (PWord.be 8 r.ttx ++ PWord.be 8 r.tnum ++ PWord.be 1 r.dirty.length ++ r.dirty.flatMap PRec.dirtyB ++ PWord.be 1 r.txns.length ++ r.txns.flatMap PRec.txnB)) := Lib.hid (by rw [HV.out]; unfold PRec.tabs; rw [Nat.mod_eq_of_lt (show r.dirty.length < 256 by omega), Nat.mod_eq_of_lt (show r.txns.length < 256 by omega)])
        have HD := Lib.hid HIN.out.1
        have HT2 := Lib.hid HIN.out.2
        clear HV HIN HBS
        generalize PRec.head r = hh at *
        generalize r.dirty = D at *
        generalize r.txns = T at *
        generalize r.ttx = tx at *
        generalize r.tnum = tn at *
        have hw1 : IntKind.u64.wrap (D.length : Int) = D.length := by rw [IntKind.wrap_u64]; omega
        have hw2 : IntKind.u64.wrap (T.length : Int) = T.length := by rw [IntKind.wrap_u64]; omega
        have hm1 : D.length < 256 := by omega
        have hm2 : T.length < 256 := by omega
        have hN : ((w2.alloc (.cells #[.slice pd D.length cd, .slice pt T.length ct, .int .u64 tx, .int .u64 tn] 30)).drew).heap[w2.heap.size]? = some (.cells #[.slice pd D.length cd, .slice pt T.length ct, .int .u64 tx, .int .u64 tn] 30 (0, 0)) := heap_alloc_new w2 _
        have HB := Lib.hid ((HW.out.1.alloc HW.out.1.size (.cells #[.slice pd D.length cd, .slice pt T.length ct, .int .u64 tx, .int .u64 tn] 30)).drew)
        have hle : w.heap.size ≤ w2.heap.size := HW.out.1.size
        obtain ⟨g4, hg4⟩ : ∃ g, w2.heap.size = g := ⟨_, rfl⟩
        have HG4 := Lib.hid hg4
        clear HW hg4
        go_wp2_with fail
        go_region_held3 (fun w' => w'.cell? ⟨w2.heap.size, 0, none⟩ = some (.slice pd D.length cd) ∧ w'.cell? ⟨w2.heap.size, 2, none⟩ = some (.int .u64 tx) ∧ w'.cell? ⟨w2.heap.size, 3, none⟩ = some (.int .u64 tn))
          (first | exact ⟨(box4 hN).1, (box4 hN).2.2.1, (box4 hN).2.2.2⟩ | go_keep)
          (first
            | (go_at_call 20; (first | with_reducible refine (rput_8 tx o10 _).mono ?_ | with_reducible refine (rput_8 tn o11 _).mono ?_ | with_reducible refine (rput_1 D.length hm1 _).mono ?_); rintro e w3 ⟨rfl, hb⟩; have hlt2 := (Array.getElem?_eq_some_iff.1 hN).1; replace hN := (hb.block _ hlt2).trans hN; replace HB := Lib.hid (HB.out.step hb); clear hb hlt2))
        rw [HG4.out] at hN ⊢
        clear HG4
        obtain ⟨t0, ht0⟩ : ∃ x : ByteArray, t ++ (⟨(PWord.be 8 tx).toArray⟩ : ByteArray) ++ ⟨(PWord.be 8 tn).toArray⟩ ++ ⟨(PWord.be 1 D.length).toArray⟩ = x := ⟨_, rfl⟩
        have HT0 : Hid (t0 = ⟨(hh ++ PWord.be 8 tx ++ PWord.be 8 tn ++ PWord.be 1 D.length).toArray⟩) := Lib.hid (by rw [← ht0, HT.out, app_l, app_l, app_l])
        have hz0 : (t0.size : Int) = 34 := by rw [← ht0, size_app, size_app, size_app, PWord.be_length, PWord.be_length, PWord.be_length]; omega
        rw [ht0]
        have hc0 := (box4 hN).1
        have HBX := Lib.hid hN
        clear hN ht0 HT ht
        go_wp2
        go_loopw [3, 5] (fun sv iv wr => ∃ (k : Nat) (t : ByteArray), k ≤ D.length ∧ iv = .int .i64 k ∧ sv = .string t ∧ (t.size : Int) = 34 + 12 * k ∧ Hid (t = ⟨(hh ++ PWord.be 8 tx ++ PWord.be 8 tn ++ PWord.be 1 D.length ++ (D.take k).flatMap PRec.dirtyB).toArray⟩) ∧ Hid (Below w.heap.size w wr ∧ wr.heap[g4]? = some (.cells #[.slice pd D.length cd, .slice pt T.length ct, .int .u64 tx, .int .u64 tn] 30 (0, 0)))) (fun _ iv _ => D.length - (intOf iv).toNat)
        case atStart => exact ⟨0, t0, by omega, rfl, rfl, by omega, Lib.hid (by rw [HT0.out]; simp), Lib.hid ⟨HB.out, HBX.out⟩⟩
        case round =>
          clear hz0 HT0 HBX HB hc0
          obtain ⟨k, t, hk, rfl, rfl, hz, HTK, HW⟩ := hrel
          have b0 := (box4 HW.out.2).1
          by_cases hlt : k < D.length
          · obtain ⟨g, off, rfl, hg, c0, c1⟩ := dirty_cells HD.out hlt
            have hdk := HO8.out D[k] (List.getElem_mem hlt)
            have HTN : Hid ((D.take (k + 1)).flatMap PRec.dirtyB = (D.take k).flatMap PRec.dirtyB ++ PRec.dirtyB D[k]) := Lib.hid (by rw [List.take_succ_eq_append_getElem hlt, List.flatMap_append, List.flatMap_cons, List.flatMap_nil, List.append_nil])
            generalize D[k] = d at *
            obtain ⟨pg, si⟩ := d
            obtain ⟨q1, q2⟩ := hdk
            dsimp only at q1 q2 c0 c1
            have HC := Lib.hid (fun W (hb : Below w.heap.size w W) => (⟨(hb.cell (p := ⟨g, off + k * 2, none⟩) hg).trans c0, (hb.cell (p := ⟨g, off + k * 2 + 1, none⟩) hg).trans c1⟩ : W.cell? ⟨g, off + k * 2, none⟩ = some (.int .u32 pg) ∧ W.cell? ⟨g, off + k * 2 + 1, none⟩ = some (.int .u64 si)))
            have i0 : (0 : Int) ≤ k := by omega
            have i1 : (k : Int) < D.length := by omega
            have hwp2 : IntKind.u64.wrap (pg : Int) = pg := by rw [IntKind.wrap_u64]; omega
            have s1 : ¬ (9223372036854775803 < t.size) := by omega
            have s2 : ¬ (9223372036854775807 < t.size + 4) := by omega
            have s3 : ¬ (9223372036854775807 < t.size + 4 + 8) := by omega
            have s4 : ¬ (9223372036854775799 < t.size + 4) := by omega
            have s5 : ¬ (9223372036854775795 < t.size) := by omega
            have s6 : ¬ (9223372036854775807 < t.size + 12) := by omega
            have hN : wr.drew.heap[g4]? = _ := HW.out.2
            have HB := Lib.hid HW.out.1.drew
            clear c0 c1
            go_wp2_with fail
            go_region_held3 (fun w' => w'.cell? ⟨g4, 0, none⟩ = some (.slice (some ⟨g, off, none⟩) D.length cd) ∧ w'.cell? ⟨g, off + k * 2, none⟩ = some (.int .u32 pg) ∧ w'.cell? ⟨g, off + k * 2 + 1, none⟩ = some (.int .u64 si))
              (first | exact ⟨(box4 hN).1, (HC.out _ HB.out).1, (HC.out _ HB.out).2⟩ | go_keep)
              (first
                | (go_at_call 20; (first | with_reducible refine (rput_4 pg q1 _).mono ?_ | with_reducible refine (rput_8 si q2 _).mono ?_); rintro e w3 ⟨rfl, hb⟩; have hlt2 := (Array.getElem?_eq_some_iff.1 hN).1; replace hN := (hb.block _ hlt2).trans hN; replace HB := Lib.hid (HB.out.step hb); clear hb hlt2))
            have HBX := Lib.hid hN
            clear hN
            go_wp2
            refine ⟨⟨k + 1, _, by omega, by go_num, rfl, ?_, Lib.hid ?_, Lib.hid ⟨HB.out, HBX.out⟩⟩, by simp [intOf]; omega⟩
            · rw [size_app, size_app, PWord.be_length, PWord.be_length]; omega
            · rw [HTK.out, HTN.out, app_l, app_l]; simp [PRec.dirtyB, List.append_assoc]
          · have hkn : k = D.length := by omega
            subst hkn
            have i1 : ¬ (D.length : Int) < D.length := by omega
            rw [List.take_length] at HTK
            have b1 := (box4 HW.out.2).2.1
            have s1 : ¬ (9223372036854775806 < t.size) := by omega
            have s2 : ¬ (9223372036854775807 < t.size + 1) := by omega
            go_wp2_with fail
            refine (rput_1 T.length hm2 _).mono ?_
            rintro e w3 ⟨rfl, hb⟩
            replace HW := Lib.hid (show Below w.heap.size w w3 ∧ w3.heap[g4]? = some (.cells #[.slice pd D.length cd, .slice pt T.length ct, .int .u64 tx, .int .u64 tn] 30 (0, 0)) from ⟨HW.out.1.step hb, (hb.block _ (Array.getElem?_eq_some_iff.1 HW.out.2).1).trans HW.out.2⟩)
            clear b0
            replace b1 := (box4 HW.out.2).2.1
            clear hb
            go_wp2
            have hz1 : ((t ++ (⟨(PWord.be 1 T.length).toArray⟩ : ByteArray)).size : Int) = 35 + 12 * D.length := by rw [size_app, PWord.be_length]; omega
            have HT1 : Hid (t ++ (⟨(PWord.be 1 T.length).toArray⟩ : ByteArray) = ⟨(hh ++ PWord.be 8 tx ++ PWord.be 8 tn ++ PWord.be 1 D.length ++ D.flatMap PRec.dirtyB ++ PWord.be 1 T.length).toArray⟩) := Lib.hid (by rw [HTK.out, app_l])
            generalize t ++ (⟨(PWord.be 1 T.length).toArray⟩ : ByteArray) = t1 at *
            clear hz HTK hk hlt i1 s1 s2
            go_loopw [3, 6] (fun sv iv wt => ∃ (k : Nat) (t : ByteArray), k ≤ T.length ∧ iv = .int .i64 k ∧ sv = .string t ∧ (t.size : Int) = 35 + 12 * D.length + 32 * k ∧ Hid (t = ⟨(hh ++ PWord.be 8 tx ++ PWord.be 8 tn ++ PWord.be 1 D.length ++ D.flatMap PRec.dirtyB ++ PWord.be 1 T.length ++ (T.take k).flatMap PRec.txnB).toArray⟩) ∧ Hid (Below w.heap.size w wt ∧ wt.heap[g4]? = some (.cells #[.slice pd D.length cd, .slice pt T.length ct, .int .u64 tx, .int .u64 tn] 30 (0, 0)))) (fun _ iv _ => T.length - (intOf iv).toNat)
            case atStart => exact ⟨0, t1, by omega, rfl, rfl, by omega, Lib.hid (by rw [HT1.out]; simp), HW⟩
            case round =>
              clear hz1 HT1 HW b1
              obtain ⟨k, t, hk, rfl, rfl, hz, HTK, HW⟩ := hrel
              have b1 := (box4 HW.out.2).2.1
              by_cases hlt : k < T.length
              · obtain ⟨g, off, rfl, hg, c0, c1, c2, c3⟩ := txns_cells (HT2.out.step HW.out.1) hlt
                have hdk := HO9.out T[k] (List.getElem_mem hlt)
                have HTN : Hid ((T.take (k + 1)).flatMap PRec.txnB = (T.take k).flatMap PRec.txnB ++ PRec.txnB T[k]) := Lib.hid (by rw [List.take_succ_eq_append_getElem hlt, List.flatMap_append, List.flatMap_cons, List.flatMap_nil, List.append_nil])
                generalize T[k] = d at *
                obtain ⟨xt, xf, xl, xn⟩ := d
                obtain ⟨q1, q2, q3, q4⟩ := hdk
                dsimp only at q1 q2 q3 q4 c0 c1 c2 c3
                have i0 : (0 : Int) ≤ k := by omega
                have i1 : (k : Int) < T.length := by omega
                have s8 : ¬ (9223372036854775799 < t.size) := by omega
                have u8 : ¬ (9223372036854775807 < t.size + 8) := by omega
                have s16 : ¬ (9223372036854775791 < t.size) := by omega
                have u16 : ¬ (9223372036854775807 < t.size + 16) := by omega
                have s24 : ¬ (9223372036854775783 < t.size) := by omega
                have u24 : ¬ (9223372036854775807 < t.size + 24) := by omega
                have s32 : ¬ (9223372036854775775 < t.size) := by omega
                have u32 : ¬ (9223372036854775807 < t.size + 32) := by omega
                have v1 : ¬ (9223372036854775807 < t.size + 8 + 8) := by omega
                have v2 : ¬ (9223372036854775807 < t.size + 8 + 8 + 8) := by omega
                have v3 : ¬ (9223372036854775807 < t.size + 8 + 8 + 8 + 8) := by omega
                have v4 : ¬ (9223372036854775799 < t.size + 8) := by omega
                have v5 : ¬ (9223372036854775799 < t.size + 8 + 8) := by omega
                have v6 : ¬ (9223372036854775799 < t.size + 8 + 8 + 8) := by omega
                have hN : ((wr.alloc (.cells #[.int .u64 xt, .int .u64 xf, .int .u64 xl, .int .u64 xn] 54)).drew).heap[wr.heap.size]? = some (.cells #[.int .u64 xt, .int .u64 xf, .int .u64 xl, .int .u64 xn] 54 (0, 0)) := heap_alloc_new wr _
                have HB := Lib.hid (((Below.refl wr.heap.size wr).alloc (Nat.le_refl _) (.cells #[.int .u64 xt, .int .u64 xf, .int .u64 xl, .int .u64 xn] 54)).drew)
                go_wp2_with fail
                go_region_held3 (fun w' => w'.cell? ⟨wr.heap.size, 0, none⟩ = some (.int .u64 xt) ∧ w'.cell? ⟨wr.heap.size, 1, none⟩ = some (.int .u64 xf) ∧ w'.cell? ⟨wr.heap.size, 2, none⟩ = some (.int .u64 xl) ∧ w'.cell? ⟨wr.heap.size, 3, none⟩ = some (.int .u64 xn))
                  (first | exact box4 hN | go_keep)
                  (first
                    | (go_at_call 20; (first | with_reducible refine (rput_8 xt q1 _).mono ?_ | with_reducible refine (rput_8 xf q2 _).mono ?_ | with_reducible refine (rput_8 xl q3 _).mono ?_ | with_reducible refine (rput_8 xn q4 _).mono ?_); rintro e w3 ⟨rfl, hb⟩; have hlt2 := (Array.getElem?_eq_some_iff.1 hN).1; replace hN := (hb.block _ hlt2).trans hN; replace HB := Lib.hid (HB.out.step hb); clear hb hlt2))
                have HBX := Lib.hid hN
                clear hN
                go_wp2
                refine ⟨⟨k + 1, _, by omega, by go_num, rfl, ?_, Lib.hid ?_, Lib.hid ⟨HW.out.1.step HB.out, (HB.out.block _ (Array.getElem?_eq_some_iff.1 HW.out.2).1).trans HW.out.2⟩⟩, by simp [intOf]; omega⟩
                · rw [size_app, size_app, size_app, size_app]; simp only [PWord.be_length]; omega
                · rw [HTK.out, HTN.out, app_l, app_l, app_l, app_l]; simp [PRec.txnB, List.append_assoc]
              · have hkn : k = T.length := by omega
                subst hkn
                have i1 : ¬ (T.length : Int) < T.length := by omega
                rw [List.take_length] at HTK
                go_wp2
                go_ret
                exact ⟨ret_str (by rw [HV2.out, HTK.out]; simp [List.append_assoc]), HW.out.1⟩
end Go.Proofs.Ytpkmnihiepbmcaa
