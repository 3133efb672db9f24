/-
  The document's disk: All.
-/
import Derived.Test.YtkmgmfahhidbbaaRef04d
import Derived.Lib.AppendStr
namespace Go.Proofs.Ytkmgmfahhidbbaa
open Go.RowKit Go.Lib
theorem Sl.of_owns {w : World} {base : Nat} {e : TypeId} {size : Nat} {v : Value} {n : Nat} {xs : List Value} (h : w.ownsRow base e size v n xs) : Sl w base e size v n xs := by
  refine ⟨h.1, ?_⟩
  rcases h.2 with hh | ⟨g, cap, cur, rfl, hb, hg, h3, h4, h5, h6⟩
  · exact .inl hh
  · exact .inr ⟨g, 0, cap, cur, (0, 0), rfl, hb, hg, Free.none _, h3, h4, by omega, by simpa using h6⟩
theorem strCells_bytesV (s : ByteArray) : strCells s = bytesV s.data.toList := by simp [strCells, bytesV]
theorem app_str {ops : Array Oper} {rest : List Oper} {o : Oper} {a : Act} {w : World} {Q : Exit → Act → World → Prop} (hgd : o.guard = none) {sl x : Operand}
    (ho : o.op = .call { callee := .builtin .append, args := #[sl, x], argTypes := #[31, 9] })
    {base : Nat} {v : Value} {n : Nat} {l : List UInt8} (hown : w.ownsRow base 5 1 v n (bytesV l)) (s : ByteArray) (hs : a.eval sl = v) (hx : a.eval x = .string s)
    (h63 : n + s.size ≤ 140737488355328) (hbase : base ≤ w.heap.size)
    (h : ∀ v' w', w'.ownsRow base 5 1 v' (n + s.size) (bytesV (l ++ s.data.toList)) → w.grownBy w' v.ownBlock → wpList Try.prog ops Q rest (a.put o.dst v') w') : wpList Try.prog ops Q (o :: rest) a w := by
  have h0 : (Try.prog.info? 5).map (fun i => (i.zero, i.size, i.bytes)) = some (some (.int .u8 0), 1, 1) := by kernel_rfl
  obtain ⟨i, hi, hz, hsz, hb⟩ := info_parts h0
  refine wpList_append_own_string _ hgd sl x _ _ ho base 5 i Try.underlying31 Try.underlying9 hi hz hsz hb v n (bytesV l) hs hown s hx (by unfold maxLen; omega) h63 hbase ?_
  intro v' w' g1 g2 _
  rw [strCells_bytesV, ← bytesV_append] at g1
  exact h v' w' g1 g2
theorem rall_any {b : Nat} {D : PDsk.Dsk} {own : List Nat} (w : World) (h : IsRef w b D own) : Calls Try.prog 24 #[.pointer (some ⟨b, 0, none⟩)] w fun e w' => e = .returned (.string ⟨D.sure.flatten.toArray⟩) ∧ Below w.heap.size w w' := by
  obtain ⟨hok, gs, os, cs, vl, hb, hs, hl, h1, h2, h3, rfl⟩ := h
  have hc0 : w.cell? ⟨b, 0, none⟩ = some (.slice (some ⟨gs, os, none⟩) D.sure.length cs) := by simp [World.cell?, hb]
  have hblt : b < w.heap.size := (Array.getElem?_eq_some_iff.1 hb).1
  have hglt : gs < w.heap.size := (hs.lt gs rfl).2
  have hcs : Hid (∀ i (hi : i < D.sure.length), w.cell? ⟨gs, os + i, none⟩ = some (.string ⟨D.sure[i].toArray⟩)) := Lib.hid (fun i hi => by
    rw [hs.cell (j := i) (by rw [refS_length]; exact hi)]
    simp [refS, refT])
  have hlen := hok.2.1
  have H128 := Lib.hid hok.2.2.1
  clear hb hs hl h1 h2 h3 hok
  have HR0 : Hid (w.ownsRow w.heap.size 5 1 (.slice none 0 0) 0 (bytesV ((D.sure.take 0).flatten))) := Lib.hid ⟨by simp [bytesV], .inl ⟨rfl, rfl⟩⟩
  have HB0 := Lib.hid (Below.refl w.heap.size w)
  go_enter Try.func24, Try.ntmps24
  go_wp2
  go_loopw [3, 4] (fun bv iv wr => ∃ i : Nat, i ≤ D.sure.length ∧ iv = .int .i64 i ∧ Hid (wr.ownsRow w.heap.size 5 1 bv (i * 128) (bytesV ((D.sure.take i).flatten))) ∧ Hid (Below w.heap.size w wr)) (fun _ iv _ => D.sure.length - (intOf iv).toNat)
  case atStart => exact ⟨0, by omega, rfl, HR0, HB0⟩
  case round =>
    obtain ⟨i, hi, rfl, HR, HB⟩ := hrel
    clear HR0 HB0
    have hc0r := (HB.out.cell (p := ⟨b, 0, none⟩) hblt).trans hc0
    by_cases hlt : i < D.sure.length
    · have hci := (HB.out.cell (p := ⟨gs, os + i, none⟩) hglt).trans (hcs.out i hlt)
      have hl128 : (⟨D.sure[i].toArray⟩ : ByteArray).size = 128 := by
        show D.sure[i].toArray.size = 128
        rw [List.size_toArray]; exact H128.out _ (List.getElem_mem hlt)
      have hstep : Hid ((D.sure.take (i + 1)).flatten = (D.sure.take i).flatten ++ (⟨D.sure[i].toArray⟩ : ByteArray).data.toList) := Lib.hid (by
        rw [List.take_succ_eq_append_getElem hlt, List.flatten_append]; simp)
      have i0 : (0 : Int) ≤ i := by omega
      have i1 : (i : Int) < D.sure.length := by omega
      generalize (⟨D.sure[i].toArray⟩ : ByteArray) = s at *
      go_wp2_with (at_builtin; (with_reducible apply app_str (rfl) (rfl) HR.out s (rfl) (rfl)); (· omega); (· exact HB.out.size); intro v' w' g1 g2)
      have hsl := Sl.of_owns HR.out
      have HR2 : Hid (w'.ownsRow w.heap.size 5 1 v' ((i + 1) * 128) (bytesV ((D.sure.take (i + 1)).flatten))) := Lib.hid (by
        rw [hstep.out, show (i + 1) * 128 = i * 128 + s.size by omega]; exact g1)
      have HB2 := Lib.hid (HB.out.grown g2 HB.out.size (fun k e => (hsl.lt k e).1))
      exact ⟨⟨i + 1, by omega, by go_num, HR2, HB2⟩, by simp [intOf]; omega⟩
    · have him : i = D.sure.length := by omega
      have i1 : ¬ (i : Int) < D.sure.length := by omega
      have hS := HR.out
      rw [him, List.take_length] at hS
      have hcv := conv_sl (Sl.of_owns hS)
      clear hS
      go_wp2
      go_ret
      exact ⟨rfl, HB.out⟩
end Go.Proofs.Ytkmgmfahhidbbaa
