/-
  Chapter 13: the document's example.
-/
import Derived.Test.YtjnggldalggfnaaLog15
import Derived.Test.YtjnggldalggfnaaPLog3
namespace Go.Proofs.Ytjnggldalggfnaa
open Go.RowKit
def DNewPost (n : Nat) (w : World) (e : Ending) (w' : World) : Prop := ∃ b own, e = .returned (.tuple #[.pointer (some ⟨b, 0, none⟩), .int .i64 0]) ∧ Below w.heap.size w w' ∧ IsDisk w' b (PDsk.new n) own ∧ ∀ k ∈ own, w.heap.size ≤ k
theorem dnew_any (n : Nat) (h1 : 1 ≤ n) (h2 : n ≤ 16384) (w : World) : Calls Try.prog 21 #[.int .i64 n] w (DNewPost n w) := by
  refine (new_any (n : Int) (by omega) (by omega) w).mono ?_
  rintro e w' ⟨hb, h | ⟨_, _, b, own, he, hd, ho⟩⟩
  · exact absurd ⟨by omega, by omega⟩ h.1
  · exact ⟨b, own, he, hb, by simpa using hd, ho⟩
def LNewP (pl n life b : Nat) (D : PDsk.Dsk) (down : List Nat) (w : World) (e : Ending) (w' : World) : Prop := ∃ g own', e = .returned (.tuple #[.pointer (some ⟨g, 0, none⟩), .int .i64 0]) ∧ LD w' g (PLog.fresh pl n life) b D own' ∧ Stepped w w' down own'
theorem lnew_ld {b : Nat} {D : PDsk.Dsk} {down : List Nat} (w : World) (h : IsDisk w b D down) (pl n life : Nat) (h1 : 4 ≤ n) (h2 : n ≤ 4096) (h3 : pl + n ≤ D.sure.length) (h4 : 1 ≤ life) (h5 : life ≤ 9000000000000000000) :
    Calls Try.prog 10 #[.pointer (some ⟨b, 0, none⟩), .int .i64 pl, .int .i64 n, .int .u64 life] w (LNewP pl n life b D down w) := by
  refine (lnew_any w h pl n life h1 h2 h3 h4 h5).mono ?_
  rintro e w' ⟨g, he, hl, hg, hb⟩
  refine ⟨g, [g] ++ down, he, ⟨[g], down, hl, h.below hb, fun k hk hm => ?_, rfl⟩, Turns.mono (Turns.of_below (bs := []) hb) (by simp), fun k hk => ?_⟩
  · simp at hk
    subst hk
    have := h.lt k hm
    omega
  · simp at hk
    rcases hk with rfl | hk
    · exact .inr hg
    · exact .inl hk
theorem lappend_ld {w : World} {g b : Nat} {L : PLog.Lg} {D : PDsk.Dsk} {own : List Nat} (h : LD w g L b D own) (s : ByteArray) (hs : s.size ≤ maxLen) (hn : L.next ≤ 8900000000000000000) :
    Calls Try.prog 8 #[.pointer (some ⟨g, 0, none⟩), .string s] w (LDPost (.tuple #[.int .u64 (PLog.append L s.data.toList).2.1, .int .i64 (PLog.append L s.data.toList).2.2]) g (PLog.append L s.data.toList).1 b D own w) :=
  h.of_log (fun _ h1 => lappend_any w h1 s hs hn)
theorem lread_ld {w : World} {g b : Nat} {L : PLog.Lg} {D : PDsk.Dsk} {own : List Nat} (h : LD w g L b D own) (x : Nat) : Calls Try.prog 9 #[.pointer (some ⟨g, 0, none⟩), .int .u64 x] w (LReadPost L x w) := by
  obtain ⟨o, h1⟩ := h.log
  exact lread_any w h1 x
set_option maxRecDepth 100000 in
set_option maxHeartbeats 4000000 in
theorem works13_any (w : World) : Calls Try.prog 7 #[] w fun e w' => e = .returned (.bool true) ∧ Below w.heap.size w w' := by
  obtain ⟨sa, hsa⟩ : ∃ s : ByteArray, (⟨#[97]⟩ : ByteArray) = s := ⟨_, rfl⟩
  have HN : Hid (∀ W, Calls Try.prog 21 #[.int .i64 6] W (DNewPost 6 W)) := Lib.hid (fun W => dnew_any 6 (by omega) (by omega) W)
  have HL : Hid (∀ W b own, IsDisk W b (PDsk.new 6) own → Calls Try.prog 10 #[.pointer (some ⟨b, 0, none⟩), .int .i64 1, .int .i64 5, .int .u64 1] W (LNewP 1 5 1 b (PDsk.new 6) own W)) := Lib.hid (fun W b own h => lnew_ld W h 1 5 1 (by omega) (by omega) (by show 1 + 5 ≤ (List.replicate 6 _).length; simp) (by omega) (by omega))
  have HA : Hid (∀ W g b D own, LD W g (PLog.fresh 1 5 1) b D own → Calls Try.prog 8 #[.pointer (some ⟨g, 0, none⟩), .string ⟨#[97]⟩] W (LDPost (.tuple #[.int .u64 110, .int .i64 0]) g PLog.wL0 b D own W)) := Lib.hid (fun W g b D own h => by
    have := lappend_ld h ⟨#[97]⟩ (by show 1 ≤ maxLen; unfold maxLen; omega) (by show 110 ≤ _; omega)
    rw [show (⟨#[97]⟩ : ByteArray).data.toList = [97] from rfl, PLog.w_append] at this
    exact this)
  have HF : Hid (∀ W g b own, LD W g PLog.wL0 b (PDsk.new 6) own → Calls Try.prog 12 #[.pointer (some ⟨g, 0, none⟩), .int .u64 110] W (LDPost (.int .i64 0) g PLog.wL1 b PLog.wD own W)) := Lib.hid (fun W g b own h => by
    have := lforce_any h 110 (by show 0 ≤ _; omega)
    rw [PLog.w_force] at this
    exact this)
  have HO : Hid (∀ W b own, IsDisk W b PLog.wD own → Calls Try.prog 11 #[.pointer (some ⟨b, 0, none⟩), .int .i64 1, .int .i64 5, .int .u64 2, .int .u64 110] W fun e w' => ∃ g own', e = .returned (.tuple #[.pointer (some ⟨g, 0, none⟩), .int .i64 0]) ∧ LD w' g PLog.wL2 b PLog.wD own' ∧ Stepped W w' own own') := Lib.hid (fun W b own h => by
    have := lopen_any W h 1 5 2 110 PLog.w_opens rfl (by show 0 ≤ _; omega)
    unfold LOpenPost fixedD at this
    rw [PLog.w_opened, if_neg (by rw [PLog.w_bytes]; exact Nat.lt_irrefl _)] at this
    exact this)
  have HR : Hid (∀ W g b D own, LD W g PLog.wL2 b D own → Calls Try.prog 9 #[.pointer (some ⟨g, 0, none⟩), .int .u64 110] W fun e w' => e = .returned (.tuple #[.string ⟨#[97]⟩, .int .u64 125, .int .i64 0]) ∧ W = w') := Lib.hid (fun W g b D own h => by
    have := lread_ld h 110
    unfold LReadPost at this
    rw [PLog.w_read] at this
    exact this)
  have HNO : Hid (∀ W b own, IsDisk W b PLog.wD own → Calls Try.prog 10 #[.pointer (some ⟨b, 0, none⟩), .int .i64 2, .int .i64 5, .int .u64 1] W fun e w' => e = .returned (.tuple #[.pointer none, .int .i64 2]) ∧ W = w') := Lib.hid (fun W b own h => lnew_no W h 2 5 1 (by omega) (by omega) (by show ((List.replicate 6 _).set 2 _).length < 2 + 5; simp) (by omega))
  have HX1 : Hid (∀ W g b own, IsLog W g PLog.wL1 b own → Calls Try.prog 16 #[.pointer (some ⟨g, 0, none⟩)] W fun e w' => e = .returned (.int .u64 125) ∧ W = w') := Lib.hid (fun W g b own h => next_any W h)
  have HX2 : Hid (∀ W g b own, IsLog W g PLog.wL2 b own → Calls Try.prog 16 #[.pointer (some ⟨g, 0, none⟩)] W fun e w' => e = .returned (.int .u64 125) ∧ W = w') := Lib.hid (fun W g b own h => next_any W h)
  have HFO : Hid (∀ W g b own, IsLog W g PLog.wL1 b own → Calls Try.prog 17 #[.pointer (some ⟨g, 0, none⟩)] W fun e w' => e = .returned (.int .u64 125) ∧ W = w') := Lib.hid (fun W g b own h => forced_any W h)
  have HRM : Hid (∀ W g b own, IsLog W g PLog.wL1 b own → Calls Try.prog 19 #[.pointer (some ⟨g, 0, none⟩)] W fun e w' => e = .returned (.int .i64 535) ∧ Below W.heap.size W w') := Lib.hid (fun W g b own h => room_any W h)
  clear hsa
  go_enter Try.func7, Try.ntmps7
  go_wp2_with fail
  refine (HN.out _).mono ?_
  rintro e w1 ⟨b, down, rfl, hb, hd, ho⟩
  have HB1 := Lib.hid hb
  have HD1 := Lib.hid hd
  have HO1 := Lib.hid ho
  clear hb hd ho
  go_wp2_with fail
  refine (HL.out _ _ _ HD1.out).mono ?_
  rintro e w2 ⟨g, own2, rfl, k1, k2⟩
  have HL2 := Lib.hid k1
  have HB2 := Lib.hid (Stepped.below HB1.out (Nat.le_refl _) HO1.out k2)
  clear k1 k2
  go_wp2_with fail
  refine (HA.out _ _ _ _ _ HL2.out).mono ?_
  rintro e w3 ⟨own3, rfl, k1, k2⟩
  have HL3 := Lib.hid k1
  have HB3 := Lib.hid (Stepped.below HB2.out.1 (Nat.le_refl _) HB2.out.2 k2)
  clear k1 k2
  go_wp2_with fail
  refine (HF.out _ _ _ _ HL3.out).mono ?_
  rintro e w4 ⟨own4, rfl, k1, k2⟩
  have HB4 := Lib.hid (Stepped.below HB3.out.1 (Nat.le_refl _) HB3.out.2 k2)
  obtain ⟨o1, o2, q1, q2, q3, q4⟩ := k1
  have HQ1 := Lib.hid q1
  have HQ2 := Lib.hid q2
  have HQ3 := Lib.hid q3
  have HQ4 := Lib.hid (show ∀ k ∈ o2, w.heap.size ≤ k from fun k hk => HB4.out.2 k (by rw [q4]; simp [hk]))
  clear k2 q1 q2 q3 q4
  go_wp2_with fail
  refine (HO.out _ _ _ HQ2.out).mono ?_
  rintro e w5 ⟨g5, own5, rfl, k1, k2⟩
  have HL5 := Lib.hid k1
  have HM5 := Lib.hid (HQ1.out.turns k2.1 HQ3.out)
  have HB5 := Lib.hid (Stepped.below HB4.out.1 (Nat.le_refl _) HQ4.out k2)
  obtain ⟨ox, hx⟩ := k1.log
  obtain ⟨od, hd5⟩ := k1.disk
  have HX5 := Lib.hid hx
  have HD5 := Lib.hid hd5
  clear k1 k2 hx hd5
  go_wp2_with fail
  refine (HR.out _ _ _ _ _ HL5.out).mono ?_; rintro e w6 ⟨rfl, rfl⟩
  go_wp2_with fail
  refine (HNO.out _ _ _ HD5.out).mono ?_; rintro e w6 ⟨rfl, rfl⟩
  go_wp2_with fail
  refine (HX1.out _ _ _ _ HM5.out).mono ?_; rintro e w6 ⟨rfl, rfl⟩
  go_wp2_with fail
  refine (HFO.out _ _ _ _ HM5.out).mono ?_; rintro e w6 ⟨rfl, rfl⟩
  go_wp2_with fail
  refine (HX2.out _ _ _ _ HX5.out).mono ?_; rintro e w6 ⟨rfl, rfl⟩
  go_wp2_with fail
  refine (HRM.out _ _ _ _ HM5.out).mono ?_; rintro e w6 ⟨rfl, hb⟩
  have HB6 := Lib.hid (HB5.out.1.step hb)
  clear hb
  go_wp2
  go_ret
  exact ⟨rfl, HB6.out⟩
end Go.Proofs.Ytjnggldalggfnaa
