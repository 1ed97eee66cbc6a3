/- Plain laws of pages and heads: what is put is got. -/
import Derived.Test.YtljaocdmeoheaaaSHead2
set_option linter.unusedVariables false
set_option linter.unusedSimpArgs false
namespace Go.Den

theorem isBlank_replicate (n : Nat) : isBlank (List.replicate n 255) = true := by simp [isBlank]
theorem getPage_pageOf {size : Nat} {kind : UInt8} {body : List UInt8} (hs : isSize size = true) (hk1 : ¬ kind < 1) (hk7 : ¬ kind > 7) (hb : body.length + 5 ≤ size) : getPage (pageOf size kind body) = (kind, body, 0) := by
  have hs' := hs
  simp [isSize] at hs'
  have hlen := pageOf_length size kind body hb
  have hrl := pageRest_length size kind body hb
  have hn := noughts_le (pageRest size kind body)
  have h2 := leB_length 2 (noughts (pageRest size kind body))
  have h3 := leB_length 2 body.length
  have e256 : (256 : Nat) ^ 2 = 65536 := by decide
  obtain ⟨n0, n1, hN⟩ : ∃ n0 n1, leB (noughts (pageRest size kind body)) 2 = [n0, n1] := ⟨_, _, rfl⟩
  obtain ⟨m0, m1, hM⟩ : ∃ m0 m1, leB body.length 2 = [m0, m1] := ⟨_, _, rfl⟩
  have hp : pageOf size kind body = n0 :: n1 :: kind :: m0 :: m1 :: (body ++ List.replicate (size - 5 - body.length) 255) := by
    unfold pageOf
    rw [hN]
    unfold pageRest
    rw [hM]
    simp
  have hr : pageRest size kind body = kind :: m0 :: m1 :: (body ++ List.replicate (size - 5 - body.length) 255) := by
    unfold pageRest
    rw [hM]
    simp
  have f1 : fromLE [n0, n1] = noughts (pageRest size kind body) := by rw [← hN]; exact fromLE_leB 2 _ (by omega)
  have f2 : fromLE [m0, m1] = body.length := by rw [← hM]; exact fromLE_leB 2 _ (by omega)
  have hkb : kind ≠ 255 := fun e => hk7 (by rw [e]; decide)
  have hnb : isBlank (pageOf size kind body) = false := by
    rw [hp]
    simp [isBlank, hkb]
  unfold getPage
  rw [hlen, if_neg (by rw [hs]; simp), if_neg (by rw [hnb]; simp)]
  have d2 : (pageOf size kind body).drop 2 = pageRest size kind body := by rw [hp, hr]; rfl
  have t2 : (pageOf size kind body).take 2 = [n0, n1] := by rw [hp]; rfl
  have g2 : (pageOf size kind body).getD 2 0 = kind := by rw [hp]; rfl
  have t3 : ((pageOf size kind body).drop 3).take 2 = [m0, m1] := by rw [hp]; rfl
  rw [d2, t2, f1, if_neg (by simp), g2, t3, f2]
  have d5 : (pageOf size kind body).drop (5 + body.length) = List.replicate (size - 5 - body.length) 255 := by
    rw [hp, ← List.drop_drop]
    show (body ++ List.replicate (size - 5 - body.length) 255).drop body.length = _
    simp
  have t5 : ((pageOf size kind body).take (5 + body.length)).drop 5 = body := by
    rw [hp, Nat.add_comm]
    show ((n0 :: n1 :: kind :: m0 :: m1 :: (body ++ List.replicate (size - 5 - body.length) 255)).take (body.length + 5)).drop 5 = body
    simp
  rw [d5, t5, isBlank_replicate, if_neg]
  rintro (h | h | h | h)
  · exact hk1 h
  · exact hk7 h
  · omega
  · cases h

theorem getHead_pageOf {size : Nat} {h : Head} (hs : isSize size = true) (ho : h.Ok) (hm : h.may = true) : getHead (pageOf size 1 h.body) = (h, 0) := by
  have hbl := h.body_length
  have hsz := putHead_size hs
  have hg := getPage_pageOf (kind := 1) (body := h.body) hs (by decide) (by decide) (by omega)
  unfold getHead
  rw [hg]
  simp only []
  rw [if_neg (by simp), if_neg (by rw [hbl]; simp)]
  have e4 : (256 : Nat) ^ 4 = 4294967296 := by decide
  have e8 : (256 : Nat) ^ 8 = 18446744073709551616 := by decide
  have h4 := leB_length 4 h.era
  have h8 := leB_length 8 h.seq
  have b0 : h.body.getD 0 0 = h.kind := rfl
  have b1 : (h.body.drop 1).take 4 = leB h.era 4 := by
    show (leB h.era 4 ++ leB h.seq 8).take 4 = _
    rw [List.take_append_of_le_length (by omega), List.take_of_length_le (by omega)]
  have b5 : (h.body.drop 5).take 8 = leB h.seq 8 := by
    show ((leB h.era 4 ++ leB h.seq 8).drop 4).take 8 = _
    rw [List.drop_append_of_le_length (by omega), List.drop_of_length_le (by omega), List.nil_append, List.take_of_length_le (by omega)]
  have f1 : fromLE (leB h.era 4) = h.era := fromLE_leB 4 _ (by have := ho.1; omega)
  have f2 : fromLE (leB h.seq 8) = h.seq := fromLE_leB 8 _ (by have := ho.2; omega)
  rw [b0, b1, b5, f1, f2]
  have e : (Head.mk h.kind h.era h.seq) = h := rfl
  rw [e, hm]
  rfl

end Go.Den
