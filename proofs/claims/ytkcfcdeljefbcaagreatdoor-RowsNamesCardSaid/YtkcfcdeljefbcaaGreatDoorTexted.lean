/-
  code.texted, walked over this program's body: the text that a key goes on with, and what stands behind it, as a plain function on lists of bytes; nothing of old memory turns.
-/
import Derived.Test.YtkcfcdeljefbcaaGreatDoorBuilder
import Derived.Test.YtkcfcdeljefbcaaGreatDoorShelf
import Derived.Lib.Hide
import Derived.Test.YtkcfcdeljefbcaaGreatDoorAMP7
namespace Go.Proofs.YtkcfcdeljefbcaaGreatDoor
open Go.RowKit Go.AM

theorem idx_any (s : ByteArray) (z : Int) (h : Lib.indexByte s.data.toList 0 = z) (w : World) :
    Calls Tryz.prog 190 #[.string s, .int .u8 0] w fun e w' => e = .returned (.int .i64 z) ∧ w' = w := by
  subst h; exact Tryz.strings_IndexByte s 0 w

set_option maxHeartbeats 4000000 in
set_option maxRecDepth 1000000 in
theorem texted_walk (s : ByteArray) (w : World) (hs : s.size ≤ 1000000) :
    Calls Tryz.prog 156 #[.string s] w fun e w' => e = .returned (.tuple #[.string ⟨(textedL [] s.data.toList).1.toArray⟩, .string ⟨(textedL [] s.data.toList).2.1.toArray⟩, .bool (textedL [] s.data.toList).2.2]) ∧ Below w.heap.size w w' := by
  go_enter Tryz.func156, Tryz.ntmps156
  go_wp2
  go_loopw [0] (fun t0 wr => ∃ (sb : ByteArray) (acc : List UInt8), t0 = .string sb ∧ acc.length + sb.size ≤ s.size ∧ Lib.IsBuilder 249 5 w.heap.size w.heap.size (Lib.byteCells acc) wr ∧ Below w.heap.size w wr ∧ textedL acc sb.data.toList = textedL [] s.data.toList) (fun t0 _ => strLen t0)
  case atStart =>
    exact ⟨s, [], rfl, by simp, Lib.fresh_isBuilder _ _ w, (Below.refl _ w).alloc (Nat.le_refl _) _, rfl⟩
  case round =>
    obtain ⟨sb, acc, rfl, hlen, hI, hb, heq⟩ := hrel
    have hsz : w.heap.size ≤ wr.heap.size := hb.size
    rcases index_parts sb.data.toList with ⟨h1, h2⟩ | ⟨pre, t, hl, hz, hk⟩
    · have HE := Lib.hid heq; clear heq
      go_wp2_with (go_at_call 190; refine (idx_any sb (-1) h1 _).mono ?_)
      rintro e w1 ⟨rfl, rfl⟩
      go_wp2
      go_ret3
      rw [textedL_none _ _ h2] at HE
      have HE := HE.out
      rw [← HE]
      exact ⟨rfl, hb⟩
    · have hsize : sb.size = pre.length + 1 + t.length := by
        show sb.data.size = _
        rw [← Array.length_toList, hl]; simp; omega
      have hl' := hl
      have HL := Lib.hid hl; clear hl
      have HE := Lib.hid heq; clear heq
      have hbound : pre.length + t.length + 1 ≤ 1000000 := by omega
      by_cases ht : t = []
      · have hz1 : ((pre.length : Int) + 1 == (sb.size : Int)) = true := by rw [hsize, ht]; simp
        have HS := Lib.hid hsize; clear hsize
        have HT := Lib.hid ht; clear ht
        clear hl'
        go_wp2_with (go_at_call 190; refine (idx_any sb _ hk _).mono ?_)
        rintro e w1 ⟨rfl, rfl⟩
        go_wp2
        go_ret3
        have HE := HE.out
        rw [HL.out, HT.out, textedL_skip _ _ _ hz] at HE
        rw [← HE]
        exact ⟨rfl, hb⟩
      · obtain ⟨e0, r0, ht'⟩ : ∃ e0 r0, t = e0 :: r0 := by
          cases t with
          | nil => exact absurd rfl ht
          | cons a b => exact ⟨a, b, rfl⟩
        clear ht
        have hz1 : ((pre.length : Int) + 1 == (sb.size : Int)) = false := by rw [hsize, ht']; simp; omega
        have hlt1 : pre.length + 1 < sb.size := by rw [hsize, ht']; simp
        have hlt2 : pre.length + 2 ≤ sb.size := by omega
        have hex : (sb.extract 0 pre.length).size = pre.length := by simp; omega
        have hbyte : sb[pre.length + 1] = e0 := by
          have h1 : sb.data.toList[pre.length + 1]? = some e0 := by rw [HL.out, ht']; simp
          have h2 : sb.data[pre.length + 1]? = some e0 := by simpa using h1
          rw [Array.getElem?_eq_getElem hlt1] at h2
          exact Option.some.inj h2
        have hpre : (sb.extract 0 pre.length).data.toList = pre := by
          rw [ByteArray.data_extract, Array.toList_extract, hl']; simp
        have hrest : (sb.extract (pre.length + 2) sb.size).data.toList = r0 := by
          have h2 : sb.data.toList.length = sb.size := rfl
          rw [ByteArray.data_extract, Array.toList_extract, ← h2, hl', ht']
          have e1 : pre ++ 0 :: e0 :: r0 = (pre ++ [0, e0]) ++ r0 := by simp
          rw [e1, List.extract_eq_take_drop]
          have e2 : pre.length + 2 = (pre ++ [0, e0]).length := by simp
          rw [e2, List.drop_left]
          exact List.take_of_length_le (by simp; omega)
        have hcells : ∀ bs, Lib.byteCells acc ++ Lib.strCells (sb.extract 0 pre.length) ++ bs = Lib.byteCells (acc ++ pre) ++ bs := fun bs => by
          rw [Lib.strCells_eq, hpre, Lib.byteCells_append]
        have hrsz : (sb.extract (pre.length + 2) sb.size).size = r0.length := by rw [← hrest]; rfl
        have hfin : textedL [] s.data.toList = if e0 == 0 then (acc ++ pre, r0, true) else if e0 == 255 then textedL (acc ++ pre ++ [0]) r0 else ([], [], false) := by
          rw [← HE.out, hl', ht', textedL_skip _ _ _ hz, textedL_eq]; rfl
        clear HL HE hl'
        have htl : t.length = r0.length + 1 := by rw [ht']; rfl
        have hssz : sb.size = pre.length + 2 + r0.length := by omega
        clear hsize ht' htl hbound
        have HS := Lib.hid hssz; clear hssz
        have HX := Lib.hid hex; clear hex
        have HP := Lib.hid hpre; clear hpre
        have HR := Lib.hid hrest; clear hrest
        have HC := Lib.hid hcells; clear hcells
        have HZ := Lib.hid hrsz; clear hrsz
        have HF := Lib.hid hfin; clear hfin
        by_cases he0 : e0 = 0
        · have hq : (((sb[pre.length + 1].toNat : Nat) : Int) == 0) = true := by rw [hbyte, he0]; rfl
          have HB := Lib.hid hbyte; clear hbyte
          have HE0 := Lib.hid he0; clear he0
          go_wp2_with (go_at_call 190; refine (idx_any sb _ hk _).mono ?_)
          rintro e w1 ⟨rfl, rfl⟩
          go_wp2_with (go_at_call 191; refine (writeString w.heap.size w.heap.size _ _ _ hI ?h1 hsz).mono ?_)
          case h1 => rw [Lib.byteCells_length, HX.out]; have := HS.out; omega
          rintro e w2 ⟨rfl, h2, b2⟩
          have h3 : Lib.IsBuilder 249 5 w.heap.size w.heap.size (Lib.byteCells (acc ++ pre)) w2 := by
            have := HC.out []
            rw [List.append_nil, List.append_nil] at this
            rw [← this]; exact .inr h2
          clear h2
          have hsz2 : w.heap.size ≤ w2.heap.size := by have := b2.size; omega
          go_wp2_with (go_at_call 192; refine (Tryz.Builder_String_any w.heap.size w.heap.size _ _ h3 hsz2).mono ?_)
          rintro e w3 ⟨rfl, b3⟩
          go_wp2
          go_ret3
          have HF := HF.out
          rw [HE0.out] at HF
          have HF : textedL [] s.data.toList = (acc ++ pre, r0, true) := HF
          rw [HF]
          refine ⟨?_, hb.trans (b2.trans b3)⟩
          have hr : (⟨r0.toArray⟩ : ByteArray) = sb.extract (pre.length + 2) sb.size := by
            rw [← HR.out]
          rw [hr]
          rfl
        · have hq : (((sb[pre.length + 1].toNat : Nat) : Int) == 0) = false := by
            rw [hbyte, beq_eq_false_iff_ne]
            intro h; exact he0 (UInt8.toNat_inj.1 (by simpa using h))
          by_cases he1 : e0 = 255
          · have hq2 : (((sb[pre.length + 1].toNat : Nat) : Int) != 255) = false := by rw [hbyte, he1]; rfl
            have HB := Lib.hid hbyte; clear hbyte
            have HE1 := Lib.hid he1; clear he1
            have HE0 := Lib.hid he0; clear he0
            go_wp2_with (go_at_call 190; refine (idx_any sb _ hk _).mono ?_)
            rintro e w1 ⟨rfl, rfl⟩
            go_wp2_with (go_at_call 191; refine (writeString w.heap.size w.heap.size _ _ _ hI ?h1 hsz).mono ?_)
            case h1 => rw [Lib.byteCells_length, HX.out]; have := HS.out; omega
            rintro e w2 ⟨rfl, h2, b2⟩
            have h3 : Lib.IsBuilder 249 5 w.heap.size w.heap.size (Lib.byteCells (acc ++ pre)) w2 := by
              have := HC.out []
              rw [List.append_nil, List.append_nil] at this
              rw [← this]; exact .inr h2
            clear h2
            have hsz2 : w.heap.size ≤ w2.heap.size := by have := b2.size; omega
            go_wp2_with (go_at_call 193; refine (writeByte w.heap.size w.heap.size _ 0 _ h3 ?h1 hsz2).mono ?_)
            case h1 => rw [Lib.byteCells_length]; have := HS.out; simp; omega
            rintro e w3 ⟨rfl, h4, b4⟩
            go_wp2
            go_roundw
            case rel =>
              refine ⟨_, acc ++ pre ++ [0], rfl, ?_, ?_, hb.trans (b2.trans b4), ?_⟩
              · rw [HZ.out]; have := HS.out; simp; omega
              · rw [Lib.byteCells_append]; exact .inr h4
              · rw [HR.out, HF.out, HE1.out]; rfl
            case measure =>
              show (sb.extract (pre.length + 2) sb.size).size < sb.size
              rw [HZ.out]; have := HS.out; omega
          · have hq2 : (((sb[pre.length + 1].toNat : Nat) : Int) != 255) = true := by
              rw [hbyte, bne_iff_ne]
              intro h; exact he1 (UInt8.toNat_inj.1 (by show e0.toNat = 255; omega))
            have HB := Lib.hid hbyte; clear hbyte
            have HE1 := Lib.hid he1; clear he1
            have HE0 := Lib.hid he0; clear he0
            go_wp2_with (go_at_call 190; refine (idx_any sb _ hk _).mono ?_)
            rintro e w1 ⟨rfl, rfl⟩
            go_wp2_with (go_at_call 191; refine (writeString w.heap.size w.heap.size _ _ _ hI ?h1 hsz).mono ?_)
            case h1 => rw [Lib.byteCells_length, HX.out]; have := HS.out; omega
            rintro e w2 ⟨rfl, h2, b2⟩
            go_wp2
            go_ret3
            have HF := HF.out
            have g0 : (e0 == 0) = false := by simpa using HE0.out
            have g1 : (e0 == 255) = false := by simpa using HE1.out
            rw [g0, g1] at HF
            have HF : textedL [] s.data.toList = ([], [], false) := HF
            rw [HF]
            exact ⟨rfl, hb.trans b2⟩
end Go.Proofs.YtkcfcdeljefbcaaGreatDoor
