/- Texts laid by programs, part 6. -/
import Derived.Test.YtcmckbgiiclomabGreatDoorU05
import Derived.Test.YtcmckbgiiclomabGreatDoorU03
import Derived.Lib.Bytealg
namespace Go.Proofs.YtcmckbgiiclomabGreatDoor.V
open Go Go.RowKit
set_option maxRecDepth 100000
set_option maxHeartbeats 4000000
set_option linter.unusedSimpArgs false
set_option linter.unusedVariables false
set_option pp.deepTerms false
set_option pp.deepTerms.threshold 3
def smByteSS (l : List (List UInt8)) : Prop := l.length ≤ 1048576 ∧ ∀ y ∈ l, (y).length ≤ 1048576
structure MItem where
  f_Route : (List UInt8)
  f_Topic : Int
  f_Due : Int
  f_Bytes : (List UInt8)
def kItem : Kd MItem := (Kd.pair Kd.str (Kd.pair Kd.i64 (Kd.pair Kd.i64 (Kd.slice 5 Kd.u8)))).iso (fun c : MItem => (c.f_Route, c.f_Topic, c.f_Due, c.f_Bytes))
theorem kItem_open {w : World} {n : Nat} {cs : List Value} {x : MItem} (h : kItem.rd w n cs x) : ∃ v3, cs = [.string ⟨(x.f_Route).toArray⟩, .int .i64 x.f_Topic, .int .i64 x.f_Due, v3] ∧ ((x.f_Route).length ≤ 9223372036854775807) ∧ (-9223372036854775808 ≤ x.f_Topic ∧ x.f_Topic < 9223372036854775808) ∧ (-9223372036854775808 ≤ x.f_Due ∧ x.f_Due < 9223372036854775808) ∧ ((Kd.slice 5 Kd.u8).rd w n [v3] x.f_Bytes) := by
  obtain ⟨a0, b0, rfl, h0, h⟩ := h; obtain ⟨a1, b1, rfl, h1, h⟩ := h; obtain ⟨a2, b2, rfl, h2, h3⟩ := h; obtain ⟨rfl, h0⟩ := h0; obtain ⟨rfl, h1⟩ := h1; obtain ⟨rfl, h2⟩ := h2; obtain ⟨v3, rfl⟩ := sl_one h3; exact ⟨v3, rfl, h0, h1, h2, h3⟩
def zItem : MItem := ⟨[], 0, 0, []⟩
theorem kItem_zero (w : World) : kItem.ow w [] [.string ⟨#[]⟩, .int .i64 0, .int .i64 0, .slice none 0 0] zItem := (pair_zero (plain_zero pl_str w (by decide)) (pair_zero (plain_zero pl_i64 w (by decide)) (pair_zero (plain_zero pl_i64 w (by decide)) (sl_zero w))))
def smItem (x : MItem) : Prop := ((x.f_Route).length ≤ 1048576) ∧ ((x.f_Bytes).length ≤ 1048576)
def smItemS (l : List MItem) : Prop := l.length ≤ 1048576 ∧ ∀ y ∈ l, smItem y
structure MLetter where
  f_Epoch : Int
  f_From : (List UInt8)
  f_Box : (List UInt8)
def kLetter : Kd MLetter := (Kd.pair Kd.i64 (Kd.pair (Kd.slice 5 Kd.u8) (Kd.slice 5 Kd.u8))).iso (fun c : MLetter => (c.f_Epoch, c.f_From, c.f_Box))
theorem kLetter_open {w : World} {n : Nat} {cs : List Value} {x : MLetter} (h : kLetter.rd w n cs x) : ∃ v1 v2, cs = [.int .i64 x.f_Epoch, v1, v2] ∧ (-9223372036854775808 ≤ x.f_Epoch ∧ x.f_Epoch < 9223372036854775808) ∧ ((Kd.slice 5 Kd.u8).rd w n [v1] x.f_From) ∧ ((Kd.slice 5 Kd.u8).rd w n [v2] x.f_Box) := by
  obtain ⟨a0, b0, rfl, h0, h⟩ := h; obtain ⟨a1, b1, rfl, h1, h2⟩ := h; obtain ⟨rfl, h0⟩ := h0; obtain ⟨v1, rfl⟩ := sl_one h1; obtain ⟨v2, rfl⟩ := sl_one h2; exact ⟨v1, v2, rfl, h0, h1, h2⟩
def smLetter (x : MLetter) : Prop := ((x.f_From).length ≤ 1048576) ∧ ((x.f_Box).length ≤ 1048576)
structure MLine where
  f_Kind : Int
  f_Route : (List UInt8)
  f_Topic : Int
  f_Due : Int
  f_Bytes : (List UInt8)
def kLine : Kd MLine := (Kd.pair Kd.i64 (Kd.pair Kd.str (Kd.pair Kd.i64 (Kd.pair Kd.i64 (Kd.slice 5 Kd.u8))))).iso (fun c : MLine => (c.f_Kind, c.f_Route, c.f_Topic, c.f_Due, c.f_Bytes))
theorem kLine_open {w : World} {n : Nat} {cs : List Value} {x : MLine} (h : kLine.rd w n cs x) : ∃ v4, cs = [.int .i64 x.f_Kind, .string ⟨(x.f_Route).toArray⟩, .int .i64 x.f_Topic, .int .i64 x.f_Due, v4] ∧ (-9223372036854775808 ≤ x.f_Kind ∧ x.f_Kind < 9223372036854775808) ∧ ((x.f_Route).length ≤ 9223372036854775807) ∧ (-9223372036854775808 ≤ x.f_Topic ∧ x.f_Topic < 9223372036854775808) ∧ (-9223372036854775808 ≤ x.f_Due ∧ x.f_Due < 9223372036854775808) ∧ ((Kd.slice 5 Kd.u8).rd w n [v4] x.f_Bytes) := by
  obtain ⟨a0, b0, rfl, h0, h⟩ := h; obtain ⟨a1, b1, rfl, h1, h⟩ := h; obtain ⟨a2, b2, rfl, h2, h⟩ := h; obtain ⟨a3, b3, rfl, h3, h4⟩ := h; obtain ⟨rfl, h0⟩ := h0; obtain ⟨rfl, h1⟩ := h1; obtain ⟨rfl, h2⟩ := h2; obtain ⟨rfl, h3⟩ := h3; obtain ⟨v4, rfl⟩ := sl_one h4; exact ⟨v4, rfl, h0, h1, h2, h3, h4⟩
def zLine : MLine := ⟨0, [], 0, 0, []⟩
theorem kLine_zero (w : World) : kLine.ow w [] [.int .i64 0, .string ⟨#[]⟩, .int .i64 0, .int .i64 0, .slice none 0 0] zLine := (pair_zero (plain_zero pl_i64 w (by decide)) (pair_zero (plain_zero pl_str w (by decide)) (pair_zero (plain_zero pl_i64 w (by decide)) (pair_zero (plain_zero pl_i64 w (by decide)) (sl_zero w)))))
structure MPost where
  f_Queue : (List MItem)
  f_Time : Int
  f_Book : (List UInt8)
  f_Sure : Int
def kPost : Kd MPost := (Kd.pair (Kd.slice 28 kItem) (Kd.pair Kd.i64 (Kd.pair (Kd.slice 5 Kd.u8) Kd.i64))).iso (fun c : MPost => (c.f_Queue, c.f_Time, c.f_Book, c.f_Sure))
theorem kPost_open {w : World} {n : Nat} {cs : List Value} {x : MPost} (h : kPost.rd w n cs x) : ∃ v0 v2, cs = [v0, .int .i64 x.f_Time, v2, .int .i64 x.f_Sure] ∧ ((Kd.slice 28 kItem).rd w n [v0] x.f_Queue) ∧ (-9223372036854775808 ≤ x.f_Time ∧ x.f_Time < 9223372036854775808) ∧ ((Kd.slice 5 Kd.u8).rd w n [v2] x.f_Book) ∧ (-9223372036854775808 ≤ x.f_Sure ∧ x.f_Sure < 9223372036854775808) := by
  obtain ⟨a0, b0, rfl, h0, h⟩ := h; obtain ⟨a1, b1, rfl, h1, h⟩ := h; obtain ⟨a2, b2, rfl, h2, h3⟩ := h; obtain ⟨v0, rfl⟩ := sl_one h0; obtain ⟨rfl, h1⟩ := h1; obtain ⟨v2, rfl⟩ := sl_one h2; obtain ⟨rfl, h3⟩ := h3; exact ⟨v0, v2, rfl, h0, h1, h2, h3⟩
def zPost : MPost := ⟨[], 0, [], 0⟩
theorem kPost_zero (w : World) : kPost.ow w [] [.slice none 0 0, .int .i64 0, .slice none 0 0, .int .i64 0] zPost := (pair_zero (sl_zero w) (pair_zero (plain_zero pl_i64 w (by decide)) (pair_zero (sl_zero w) (plain_zero pl_i64 w (by decide)))))
def smPost (x : MPost) : Prop := (smItemS x.f_Queue) ∧ ((x.f_Book).length ≤ 1048576)
structure MReader where
  f_Seed : (List UInt8)
  f_Epoch : Int
  f_Seen : (List (List UInt8))
  f_Got : (List (List UInt8))
def kReader : Kd MReader := (Kd.pair (Kd.slice 5 Kd.u8) (Kd.pair Kd.i64 (Kd.pair (Kd.slice 22 (Kd.slice 5 Kd.u8)) (Kd.slice 22 (Kd.slice 5 Kd.u8))))).iso (fun c : MReader => (c.f_Seed, c.f_Epoch, c.f_Seen, c.f_Got))
theorem kReader_open {w : World} {n : Nat} {cs : List Value} {x : MReader} (h : kReader.rd w n cs x) : ∃ v0 v2 v3, cs = [v0, .int .i64 x.f_Epoch, v2, v3] ∧ ((Kd.slice 5 Kd.u8).rd w n [v0] x.f_Seed) ∧ (-9223372036854775808 ≤ x.f_Epoch ∧ x.f_Epoch < 9223372036854775808) ∧ ((Kd.slice 22 (Kd.slice 5 Kd.u8)).rd w n [v2] x.f_Seen) ∧ ((Kd.slice 22 (Kd.slice 5 Kd.u8)).rd w n [v3] x.f_Got) := by
  obtain ⟨a0, b0, rfl, h0, h⟩ := h; obtain ⟨a1, b1, rfl, h1, h⟩ := h; obtain ⟨a2, b2, rfl, h2, h3⟩ := h; obtain ⟨v0, rfl⟩ := sl_one h0; obtain ⟨rfl, h1⟩ := h1; obtain ⟨v2, rfl⟩ := sl_one h2; obtain ⟨v3, rfl⟩ := sl_one h3; exact ⟨v0, v2, v3, rfl, h0, h1, h2, h3⟩
def zReader : MReader := ⟨[], 0, [], []⟩
theorem kReader_zero (w : World) : kReader.ow w [] [.slice none 0 0, .int .i64 0, .slice none 0 0, .slice none 0 0] zReader := (pair_zero (sl_zero w) (pair_zero (plain_zero pl_i64 w (by decide)) (pair_zero (sl_zero w) (sl_zero w))))
def smReader (x : MReader) : Prop := ((x.f_Seed).length ≤ 1048576) ∧ (smByteSS x.f_Seen) ∧ (smByteSS x.f_Got)
structure MWire where
  f_ToPost : Bool
  f_Item : MItem
  f_Bytes : (List UInt8)
def kWire : Kd MWire := (Kd.pair Kd.bool (Kd.pair kItem (Kd.slice 5 Kd.u8))).iso (fun c : MWire => (c.f_ToPost, c.f_Item, c.f_Bytes))
theorem kWire_open {w : World} {n : Nat} {cs : List Value} {x : MWire} (h : kWire.rd w n cs x) : ∃ v1_3 v2, cs = [.bool x.f_ToPost, .string ⟨(x.f_Item.f_Route).toArray⟩, .int .i64 x.f_Item.f_Topic, .int .i64 x.f_Item.f_Due, v1_3, v2] ∧ (True) ∧ (kItem.rd w n [.string ⟨(x.f_Item.f_Route).toArray⟩, .int .i64 x.f_Item.f_Topic, .int .i64 x.f_Item.f_Due, v1_3] x.f_Item) ∧ ((Kd.slice 5 Kd.u8).rd w n [v2] x.f_Bytes) := by
  obtain ⟨a0, b0, rfl, h0, h⟩ := h; obtain ⟨a1, b1, rfl, h1, h2⟩ := h; obtain ⟨rfl, h0⟩ := h0; have h1_ := h1; obtain ⟨v1_3, rfl, _⟩ := kItem_open h1_; obtain ⟨v2, rfl⟩ := sl_one h2; exact ⟨v1_3, v2, rfl, h0, h1, h2⟩
def smWire (x : MWire) : Prop := (smItem x.f_Item) ∧ ((x.f_Bytes).length ≤ 1048576)
def smWireS (l : List MWire) : Prop := l.length ≤ 1048576 ∧ ∀ y ∈ l, smWire y
structure MSent where
  f_Route : (List UInt8)
  f_Epoch : Int
  f_Note : (List UInt8)
  f_Bytes : (List UInt8)
def kSent : Kd MSent := (Kd.pair Kd.str (Kd.pair Kd.i64 (Kd.pair (Kd.slice 5 Kd.u8) (Kd.slice 5 Kd.u8)))).iso (fun c : MSent => (c.f_Route, c.f_Epoch, c.f_Note, c.f_Bytes))
theorem kSent_open {w : World} {n : Nat} {cs : List Value} {x : MSent} (h : kSent.rd w n cs x) : ∃ v2 v3, cs = [.string ⟨(x.f_Route).toArray⟩, .int .i64 x.f_Epoch, v2, v3] ∧ ((x.f_Route).length ≤ 9223372036854775807) ∧ (-9223372036854775808 ≤ x.f_Epoch ∧ x.f_Epoch < 9223372036854775808) ∧ ((Kd.slice 5 Kd.u8).rd w n [v2] x.f_Note) ∧ ((Kd.slice 5 Kd.u8).rd w n [v3] x.f_Bytes) := by
  obtain ⟨a0, b0, rfl, h0, h⟩ := h; obtain ⟨a1, b1, rfl, h1, h⟩ := h; obtain ⟨a2, b2, rfl, h2, h3⟩ := h; obtain ⟨rfl, h0⟩ := h0; obtain ⟨rfl, h1⟩ := h1; obtain ⟨v2, rfl⟩ := sl_one h2; obtain ⟨v3, rfl⟩ := sl_one h3; exact ⟨v2, v3, rfl, h0, h1, h2, h3⟩
def smSent (x : MSent) : Prop := ((x.f_Route).length ≤ 1048576) ∧ ((x.f_Note).length ≤ 1048576) ∧ ((x.f_Bytes).length ≤ 1048576)
def smSentS (l : List MSent) : Prop := l.length ≤ 1048576 ∧ ∀ y ∈ l, smSent y
structure MWorld where
  f_Seed : (List UInt8)
  f_Count : Int
  f_Known : Int
  f_Post : MPost
  f_Reader : MReader
  f_Net : (List MWire)
  f_Sent : (List MSent)
def kWorld : Kd MWorld := (Kd.pair (Kd.slice 5 Kd.u8) (Kd.pair Kd.i64 (Kd.pair Kd.i64 (Kd.pair kPost (Kd.pair kReader (Kd.pair (Kd.slice 64 kWire) (Kd.slice 66 kSent))))))).iso (fun c : MWorld => (c.f_Seed, c.f_Count, c.f_Known, c.f_Post, c.f_Reader, c.f_Net, c.f_Sent))
theorem kWorld_open {w : World} {n : Nat} {cs : List Value} {x : MWorld} (h : kWorld.rd w n cs x) : ∃ v0 v3_0 v3_2 v4_0 v4_2 v4_3 v5 v6, cs = [v0, .int .i64 x.f_Count, .int .i64 x.f_Known, v3_0, .int .i64 x.f_Post.f_Time, v3_2, .int .i64 x.f_Post.f_Sure, v4_0, .int .i64 x.f_Reader.f_Epoch, v4_2, v4_3, v5, v6] ∧ ((Kd.slice 5 Kd.u8).rd w n [v0] x.f_Seed) ∧ (-9223372036854775808 ≤ x.f_Count ∧ x.f_Count < 9223372036854775808) ∧ (-9223372036854775808 ≤ x.f_Known ∧ x.f_Known < 9223372036854775808) ∧ (kPost.rd w n [v3_0, .int .i64 x.f_Post.f_Time, v3_2, .int .i64 x.f_Post.f_Sure] x.f_Post) ∧ (kReader.rd w n [v4_0, .int .i64 x.f_Reader.f_Epoch, v4_2, v4_3] x.f_Reader) ∧ ((Kd.slice 64 kWire).rd w n [v5] x.f_Net) ∧ ((Kd.slice 66 kSent).rd w n [v6] x.f_Sent) := by
  obtain ⟨a0, b0, rfl, h0, h⟩ := h; obtain ⟨a1, b1, rfl, h1, h⟩ := h; obtain ⟨a2, b2, rfl, h2, h⟩ := h; obtain ⟨a3, b3, rfl, h3, h⟩ := h; obtain ⟨a4, b4, rfl, h4, h⟩ := h; obtain ⟨a5, b5, rfl, h5, h6⟩ := h; obtain ⟨v0, rfl⟩ := sl_one h0; obtain ⟨rfl, h1⟩ := h1; obtain ⟨rfl, h2⟩ := h2; have h3_ := h3; obtain ⟨v3_0, v3_2, rfl, _⟩ := kPost_open h3_; have h4_ := h4; obtain ⟨v4_0, v4_2, v4_3, rfl, _⟩ := kReader_open h4_; obtain ⟨v5, rfl⟩ := sl_one h5; obtain ⟨v6, rfl⟩ := sl_one h6; exact ⟨v0, v3_0, v3_2, v4_0, v4_2, v4_3, v5, v6, rfl, h0, h1, h2, h3, h4, h5, h6⟩
def zWorld : MWorld := ⟨[], 0, 0, zPost, zReader, [], []⟩
theorem kWorld_zero (w : World) : kWorld.ow w [] [.slice none 0 0, .int .i64 0, .int .i64 0, .slice none 0 0, .int .i64 0, .slice none 0 0, .int .i64 0, .slice none 0 0, .int .i64 0, .slice none 0 0, .slice none 0 0, .slice none 0 0, .slice none 0 0] zWorld := (pair_zero (sl_zero w) (pair_zero (plain_zero pl_i64 w (by decide)) (pair_zero (plain_zero pl_i64 w (by decide)) (pair_zero (kPost_zero w) (pair_zero (kReader_zero w) (pair_zero (sl_zero w) (sl_zero w)))))))
def smWorld (x : MWorld) : Prop := ((x.f_Seed).length ≤ 1048576) ∧ (smPost x.f_Post) ∧ (smReader x.f_Reader) ∧ (smWireS x.f_Net) ∧ (smSentS x.f_Sent)


theorem ownItem {n : Nat} {w0 w : World} {L : List Ck} {f3 : List Nat} {v3 : Value} (x : MItem) (H : Sep n w0 w (Ck.own (Kd.slice 5 Kd.u8) f3 [v3] x.f_Bytes :: L)) (r0 : (x.f_Route).length ≤ 9223372036854775807) (r1 : -9223372036854775808 ≤ x.f_Topic ∧ x.f_Topic < 9223372036854775808) (r2 : -9223372036854775808 ≤ x.f_Due ∧ x.f_Due < 9223372036854775808) : ∃ fp, Sep n w0 w (Ck.own kItem fp [.string ⟨(x.f_Route).toArray⟩, .int .i64 x.f_Topic, .int .i64 x.f_Due, v3] x :: L) := by
  have H := H.front (c := Ck.own (Kd.slice 5 Kd.u8) f3 [v3] x.f_Bytes); have H := H.plain pl_i64 (x := x.f_Due) r2; have H := H.pair; have H := H.plain pl_i64 (x := x.f_Topic) r1; have H := H.pair; have H := H.plain pl_str (x := x.f_Route) r0; have H := H.pair; exact ⟨_, Sep.iso (y := x) (f := fun c : MItem => (c.f_Route, c.f_Topic, c.f_Due, c.f_Bytes)) H⟩
theorem apartItem {n : Nat} {w0 w : World} {L : List Ck} {fp : List Nat} {cs : List Value} {x : MItem} (H : Sep n w0 w (Ck.own kItem fp cs x :: L)) : ∃ v3 f3, cs = [.string ⟨(x.f_Route).toArray⟩, .int .i64 x.f_Topic, .int .i64 x.f_Due, v3] ∧ ((x.f_Route).length ≤ 9223372036854775807) ∧ (-9223372036854775808 ≤ x.f_Topic ∧ x.f_Topic < 9223372036854775808) ∧ (-9223372036854775808 ≤ x.f_Due ∧ x.f_Due < 9223372036854775808) ∧ Sep n w0 w (Ck.own (Kd.slice 5 Kd.u8) f3 [v3] x.f_Bytes :: L) := by
  have H : Sep n w0 w (Ck.own (Kd.pair Kd.str (Kd.pair Kd.i64 (Kd.pair Kd.i64 (Kd.slice 5 Kd.u8)))) fp cs (x.f_Route, x.f_Topic, x.f_Due, x.f_Bytes) :: L) := H; obtain ⟨f0, q0, c0, d0, rfl, _, H⟩ := H.unpair; obtain ⟨rfl, r0⟩ := (H.own (d := Kd.str) (fp := f0) (cs := c0) (x := x.f_Route) (.head _)); have H := H.tail; have H : Sep n w0 w (Ck.own (Kd.pair Kd.i64 (Kd.pair Kd.i64 (Kd.slice 5 Kd.u8))) q0 d0 (x.f_Topic, x.f_Due, x.f_Bytes) :: _) := H; obtain ⟨f1, q1, c1, d1, rfl, _, H⟩ := H.unpair; obtain ⟨rfl, r1⟩ := (H.own (d := Kd.i64) (fp := f1) (cs := c1) (x := x.f_Topic) (.head _)); have H := H.tail; have H : Sep n w0 w (Ck.own (Kd.pair Kd.i64 (Kd.slice 5 Kd.u8)) q1 d1 (x.f_Due, x.f_Bytes) :: _) := H; obtain ⟨f2, q2, c2, d2, rfl, _, H⟩ := H.unpair; obtain ⟨rfl, r2⟩ := (H.own (d := Kd.i64) (fp := f2) (cs := c2) (x := x.f_Due) (.head _)); have H := H.tail; have H : Sep n w0 w (Ck.own (Kd.slice 5 Kd.u8) q2 d2 x.f_Bytes :: _) := H; obtain ⟨v3, rfl⟩ := sl_one (H.own (d := (Kd.slice 5 Kd.u8)) (fp := q2) (cs := d2) (x := x.f_Bytes) (.head _)); have H := H.front (c := Ck.own (Kd.slice 5 Kd.u8) q2 [v3] x.f_Bytes); exact ⟨v3, q2, rfl, r0, r1, r2, H⟩
theorem ownLetter {n : Nat} {w0 w : World} {L : List Ck} {f1 f2 : List Nat} {v1 v2 : Value} (x : MLetter) (H : Sep n w0 w (Ck.own (Kd.slice 5 Kd.u8) f1 [v1] x.f_From :: Ck.own (Kd.slice 5 Kd.u8) f2 [v2] x.f_Box :: L)) (r0 : -9223372036854775808 ≤ x.f_Epoch ∧ x.f_Epoch < 9223372036854775808) : ∃ fp, Sep n w0 w (Ck.own kLetter fp [.int .i64 x.f_Epoch, v1, v2] x :: L) := by
  have H := H.front (c := Ck.own (Kd.slice 5 Kd.u8) f2 [v2] x.f_Box); have H := H.front (c := Ck.own (Kd.slice 5 Kd.u8) f1 [v1] x.f_From); have H := H.pair; have H := H.plain pl_i64 (x := x.f_Epoch) r0; have H := H.pair; exact ⟨_, Sep.iso (y := x) (f := fun c : MLetter => (c.f_Epoch, c.f_From, c.f_Box)) H⟩
theorem ownLine {n : Nat} {w0 w : World} {L : List Ck} {f4 : List Nat} {v4 : Value} (x : MLine) (H : Sep n w0 w (Ck.own (Kd.slice 5 Kd.u8) f4 [v4] x.f_Bytes :: L)) (r0 : -9223372036854775808 ≤ x.f_Kind ∧ x.f_Kind < 9223372036854775808) (r1 : (x.f_Route).length ≤ 9223372036854775807) (r2 : -9223372036854775808 ≤ x.f_Topic ∧ x.f_Topic < 9223372036854775808) (r3 : -9223372036854775808 ≤ x.f_Due ∧ x.f_Due < 9223372036854775808) : ∃ fp, Sep n w0 w (Ck.own kLine fp [.int .i64 x.f_Kind, .string ⟨(x.f_Route).toArray⟩, .int .i64 x.f_Topic, .int .i64 x.f_Due, v4] x :: L) := by
  have H := H.front (c := Ck.own (Kd.slice 5 Kd.u8) f4 [v4] x.f_Bytes); have H := H.plain pl_i64 (x := x.f_Due) r3; have H := H.pair; have H := H.plain pl_i64 (x := x.f_Topic) r2; have H := H.pair; have H := H.plain pl_str (x := x.f_Route) r1; have H := H.pair; have H := H.plain pl_i64 (x := x.f_Kind) r0; have H := H.pair; exact ⟨_, Sep.iso (y := x) (f := fun c : MLine => (c.f_Kind, c.f_Route, c.f_Topic, c.f_Due, c.f_Bytes)) H⟩
theorem ownPost {n : Nat} {w0 w : World} {L : List Ck} {f0 f2 : List Nat} {v0 v2 : Value} (x : MPost) (H : Sep n w0 w (Ck.own (Kd.slice 28 kItem) f0 [v0] x.f_Queue :: Ck.own (Kd.slice 5 Kd.u8) f2 [v2] x.f_Book :: L)) (r1 : -9223372036854775808 ≤ x.f_Time ∧ x.f_Time < 9223372036854775808) (r3 : -9223372036854775808 ≤ x.f_Sure ∧ x.f_Sure < 9223372036854775808) : ∃ fp, Sep n w0 w (Ck.own kPost fp [v0, .int .i64 x.f_Time, v2, .int .i64 x.f_Sure] x :: L) := by
  have H := H.plain pl_i64 (x := x.f_Sure) r3; have H := H.front (c := Ck.own (Kd.slice 5 Kd.u8) f2 [v2] x.f_Book); have H := H.pair; have H := H.plain pl_i64 (x := x.f_Time) r1; have H := H.pair; have H := H.front (c := Ck.own (Kd.slice 28 kItem) f0 [v0] x.f_Queue); have H := H.pair; exact ⟨_, Sep.iso (y := x) (f := fun c : MPost => (c.f_Queue, c.f_Time, c.f_Book, c.f_Sure)) H⟩
theorem ownReader {n : Nat} {w0 w : World} {L : List Ck} {f0 f2 f3 : List Nat} {v0 v2 v3 : Value} (x : MReader) (H : Sep n w0 w (Ck.own (Kd.slice 5 Kd.u8) f0 [v0] x.f_Seed :: Ck.own (Kd.slice 22 (Kd.slice 5 Kd.u8)) f2 [v2] x.f_Seen :: Ck.own (Kd.slice 22 (Kd.slice 5 Kd.u8)) f3 [v3] x.f_Got :: L)) (r1 : -9223372036854775808 ≤ x.f_Epoch ∧ x.f_Epoch < 9223372036854775808) : ∃ fp, Sep n w0 w (Ck.own kReader fp [v0, .int .i64 x.f_Epoch, v2, v3] x :: L) := by
  have H := H.front (c := Ck.own (Kd.slice 22 (Kd.slice 5 Kd.u8)) f3 [v3] x.f_Got); have H := H.front (c := Ck.own (Kd.slice 22 (Kd.slice 5 Kd.u8)) f2 [v2] x.f_Seen); have H := H.pair; have H := H.plain pl_i64 (x := x.f_Epoch) r1; have H := H.pair; have H := H.front (c := Ck.own (Kd.slice 5 Kd.u8) f0 [v0] x.f_Seed); have H := H.pair; exact ⟨_, Sep.iso (y := x) (f := fun c : MReader => (c.f_Seed, c.f_Epoch, c.f_Seen, c.f_Got)) H⟩
theorem apartReader {n : Nat} {w0 w : World} {L : List Ck} {fp : List Nat} {cs : List Value} {x : MReader} (H : Sep n w0 w (Ck.own kReader fp cs x :: L)) : ∃ v0 v2 v3 f0 f2 f3, cs = [v0, .int .i64 x.f_Epoch, v2, v3] ∧ (-9223372036854775808 ≤ x.f_Epoch ∧ x.f_Epoch < 9223372036854775808) ∧ Sep n w0 w (Ck.own (Kd.slice 5 Kd.u8) f0 [v0] x.f_Seed :: Ck.own (Kd.slice 22 (Kd.slice 5 Kd.u8)) f2 [v2] x.f_Seen :: Ck.own (Kd.slice 22 (Kd.slice 5 Kd.u8)) f3 [v3] x.f_Got :: L) := by
  have H : Sep n w0 w (Ck.own (Kd.pair (Kd.slice 5 Kd.u8) (Kd.pair Kd.i64 (Kd.pair (Kd.slice 22 (Kd.slice 5 Kd.u8)) (Kd.slice 22 (Kd.slice 5 Kd.u8))))) fp cs (x.f_Seed, x.f_Epoch, x.f_Seen, x.f_Got) :: L) := H; obtain ⟨f0, q0, c0, d0, rfl, _, H⟩ := H.unpair; obtain ⟨v0, rfl⟩ := sl_one (H.own (d := (Kd.slice 5 Kd.u8)) (fp := f0) (cs := c0) (x := x.f_Seed) (.head _)); have H : Sep n w0 w (Ck.own (Kd.pair Kd.i64 (Kd.pair (Kd.slice 22 (Kd.slice 5 Kd.u8)) (Kd.slice 22 (Kd.slice 5 Kd.u8)))) q0 d0 (x.f_Epoch, x.f_Seen, x.f_Got) :: _) := H.front (.there .here); obtain ⟨f1, q1, c1, d1, rfl, _, H⟩ := H.unpair; obtain ⟨rfl, r1⟩ := (H.own (d := Kd.i64) (fp := f1) (cs := c1) (x := x.f_Epoch) (.head _)); have H := H.tail; have H : Sep n w0 w (Ck.own (Kd.pair (Kd.slice 22 (Kd.slice 5 Kd.u8)) (Kd.slice 22 (Kd.slice 5 Kd.u8))) q1 d1 (x.f_Seen, x.f_Got) :: _) := H; obtain ⟨f2, q2, c2, d2, rfl, _, H⟩ := H.unpair; obtain ⟨v2, rfl⟩ := sl_one (H.own (d := (Kd.slice 22 (Kd.slice 5 Kd.u8))) (fp := f2) (cs := c2) (x := x.f_Seen) (.head _)); have H : Sep n w0 w (Ck.own (Kd.slice 22 (Kd.slice 5 Kd.u8)) q2 d2 x.f_Got :: _) := H.front (.there .here); obtain ⟨v3, rfl⟩ := sl_one (H.own (d := (Kd.slice 22 (Kd.slice 5 Kd.u8))) (fp := q2) (cs := d2) (x := x.f_Got) (.head _)); have H := H.front (c := Ck.own (Kd.slice 22 (Kd.slice 5 Kd.u8)) q2 [v3] x.f_Got); have H := H.front (c := Ck.own (Kd.slice 22 (Kd.slice 5 Kd.u8)) f2 [v2] x.f_Seen); have H := H.front (c := Ck.own (Kd.slice 5 Kd.u8) f0 [v0] x.f_Seed); exact ⟨v0, v2, v3, f0, f2, q2, rfl, r1, H⟩
theorem ownWire {n : Nat} {w0 w : World} {L : List Ck} {f1 f2 : List Nat} {v1_3 v2 : Value} (x : MWire) (H : Sep n w0 w (Ck.own kItem f1 [.string ⟨(x.f_Item.f_Route).toArray⟩, .int .i64 x.f_Item.f_Topic, .int .i64 x.f_Item.f_Due, v1_3] x.f_Item :: Ck.own (Kd.slice 5 Kd.u8) f2 [v2] x.f_Bytes :: L)) (r0 : True) : ∃ fp, Sep n w0 w (Ck.own kWire fp [.bool x.f_ToPost, .string ⟨(x.f_Item.f_Route).toArray⟩, .int .i64 x.f_Item.f_Topic, .int .i64 x.f_Item.f_Due, v1_3, v2] x :: L) := by
  have H := H.front (c := Ck.own (Kd.slice 5 Kd.u8) f2 [v2] x.f_Bytes); have H := H.front (c := Ck.own kItem f1 [.string ⟨(x.f_Item.f_Route).toArray⟩, .int .i64 x.f_Item.f_Topic, .int .i64 x.f_Item.f_Due, v1_3] x.f_Item); have H := H.pair; have H := H.plain pl_bool (x := x.f_ToPost) r0; have H := H.pair; exact ⟨_, Sep.iso (y := x) (f := fun c : MWire => (c.f_ToPost, c.f_Item, c.f_Bytes)) H⟩
theorem ownSent {n : Nat} {w0 w : World} {L : List Ck} {f2 f3 : List Nat} {v2 v3 : Value} (x : MSent) (H : Sep n w0 w (Ck.own (Kd.slice 5 Kd.u8) f2 [v2] x.f_Note :: Ck.own (Kd.slice 5 Kd.u8) f3 [v3] x.f_Bytes :: L)) (r0 : (x.f_Route).length ≤ 9223372036854775807) (r1 : -9223372036854775808 ≤ x.f_Epoch ∧ x.f_Epoch < 9223372036854775808) : ∃ fp, Sep n w0 w (Ck.own kSent fp [.string ⟨(x.f_Route).toArray⟩, .int .i64 x.f_Epoch, v2, v3] x :: L) := by
  have H := H.front (c := Ck.own (Kd.slice 5 Kd.u8) f3 [v3] x.f_Bytes); have H := H.front (c := Ck.own (Kd.slice 5 Kd.u8) f2 [v2] x.f_Note); have H := H.pair; have H := H.plain pl_i64 (x := x.f_Epoch) r1; have H := H.pair; have H := H.plain pl_str (x := x.f_Route) r0; have H := H.pair; exact ⟨_, Sep.iso (y := x) (f := fun c : MSent => (c.f_Route, c.f_Epoch, c.f_Note, c.f_Bytes)) H⟩
theorem apartSent {n : Nat} {w0 w : World} {L : List Ck} {fp : List Nat} {cs : List Value} {x : MSent} (H : Sep n w0 w (Ck.own kSent fp cs x :: L)) : ∃ v2 v3 f2 f3, cs = [.string ⟨(x.f_Route).toArray⟩, .int .i64 x.f_Epoch, v2, v3] ∧ ((x.f_Route).length ≤ 9223372036854775807) ∧ (-9223372036854775808 ≤ x.f_Epoch ∧ x.f_Epoch < 9223372036854775808) ∧ Sep n w0 w (Ck.own (Kd.slice 5 Kd.u8) f2 [v2] x.f_Note :: Ck.own (Kd.slice 5 Kd.u8) f3 [v3] x.f_Bytes :: L) := by
  have H : Sep n w0 w (Ck.own (Kd.pair Kd.str (Kd.pair Kd.i64 (Kd.pair (Kd.slice 5 Kd.u8) (Kd.slice 5 Kd.u8)))) fp cs (x.f_Route, x.f_Epoch, x.f_Note, x.f_Bytes) :: L) := H; obtain ⟨f0, q0, c0, d0, rfl, _, H⟩ := H.unpair; obtain ⟨rfl, r0⟩ := (H.own (d := Kd.str) (fp := f0) (cs := c0) (x := x.f_Route) (.head _)); have H := H.tail; have H : Sep n w0 w (Ck.own (Kd.pair Kd.i64 (Kd.pair (Kd.slice 5 Kd.u8) (Kd.slice 5 Kd.u8))) q0 d0 (x.f_Epoch, x.f_Note, x.f_Bytes) :: _) := H; obtain ⟨f1, q1, c1, d1, rfl, _, H⟩ := H.unpair; obtain ⟨rfl, r1⟩ := (H.own (d := Kd.i64) (fp := f1) (cs := c1) (x := x.f_Epoch) (.head _)); have H := H.tail; have H : Sep n w0 w (Ck.own (Kd.pair (Kd.slice 5 Kd.u8) (Kd.slice 5 Kd.u8)) q1 d1 (x.f_Note, x.f_Bytes) :: _) := H; obtain ⟨f2, q2, c2, d2, rfl, _, H⟩ := H.unpair; obtain ⟨v2, rfl⟩ := sl_one (H.own (d := (Kd.slice 5 Kd.u8)) (fp := f2) (cs := c2) (x := x.f_Note) (.head _)); have H : Sep n w0 w (Ck.own (Kd.slice 5 Kd.u8) q2 d2 x.f_Bytes :: _) := H.front (.there .here); obtain ⟨v3, rfl⟩ := sl_one (H.own (d := (Kd.slice 5 Kd.u8)) (fp := q2) (cs := d2) (x := x.f_Bytes) (.head _)); have H := H.front (c := Ck.own (Kd.slice 5 Kd.u8) q2 [v3] x.f_Bytes); have H := H.front (c := Ck.own (Kd.slice 5 Kd.u8) f2 [v2] x.f_Note); exact ⟨v2, v3, f2, q2, rfl, r0, r1, H⟩
theorem ownWorld {n : Nat} {w0 w : World} {L : List Ck} {f0 f3 f4 f5 f6 : List Nat} {v0 v3_0 v3_2 v4_0 v4_2 v4_3 v5 v6 : Value} (x : MWorld) (H : Sep n w0 w (Ck.own (Kd.slice 5 Kd.u8) f0 [v0] x.f_Seed :: Ck.own kPost f3 [v3_0, .int .i64 x.f_Post.f_Time, v3_2, .int .i64 x.f_Post.f_Sure] x.f_Post :: Ck.own kReader f4 [v4_0, .int .i64 x.f_Reader.f_Epoch, v4_2, v4_3] x.f_Reader :: Ck.own (Kd.slice 64 kWire) f5 [v5] x.f_Net :: Ck.own (Kd.slice 66 kSent) f6 [v6] x.f_Sent :: L)) (r1 : -9223372036854775808 ≤ x.f_Count ∧ x.f_Count < 9223372036854775808) (r2 : -9223372036854775808 ≤ x.f_Known ∧ x.f_Known < 9223372036854775808) : ∃ fp, Sep n w0 w (Ck.own kWorld fp [v0, .int .i64 x.f_Count, .int .i64 x.f_Known, v3_0, .int .i64 x.f_Post.f_Time, v3_2, .int .i64 x.f_Post.f_Sure, v4_0, .int .i64 x.f_Reader.f_Epoch, v4_2, v4_3, v5, v6] x :: L) := by
  have H := H.front (c := Ck.own (Kd.slice 66 kSent) f6 [v6] x.f_Sent); have H := H.front (c := Ck.own (Kd.slice 64 kWire) f5 [v5] x.f_Net); have H := H.pair; have H := H.front (c := Ck.own kReader f4 [v4_0, .int .i64 x.f_Reader.f_Epoch, v4_2, v4_3] x.f_Reader); have H := H.pair; have H := H.front (c := Ck.own kPost f3 [v3_0, .int .i64 x.f_Post.f_Time, v3_2, .int .i64 x.f_Post.f_Sure] x.f_Post); have H := H.pair; have H := H.plain pl_i64 (x := x.f_Known) r2; have H := H.pair; have H := H.plain pl_i64 (x := x.f_Count) r1; have H := H.pair; have H := H.front (c := Ck.own (Kd.slice 5 Kd.u8) f0 [v0] x.f_Seed); have H := H.pair; exact ⟨_, Sep.iso (y := x) (f := fun c : MWorld => (c.f_Seed, c.f_Count, c.f_Known, c.f_Post, c.f_Reader, c.f_Net, c.f_Sent)) H⟩
theorem apartWorld {n : Nat} {w0 w : World} {L : List Ck} {fp : List Nat} {cs : List Value} {x : MWorld} (H : Sep n w0 w (Ck.own kWorld fp cs x :: L)) : ∃ v0 v3_0 v3_2 v4_0 v4_2 v4_3 v5 v6 f0 f3 f4 f5 f6, cs = [v0, .int .i64 x.f_Count, .int .i64 x.f_Known, v3_0, .int .i64 x.f_Post.f_Time, v3_2, .int .i64 x.f_Post.f_Sure, v4_0, .int .i64 x.f_Reader.f_Epoch, v4_2, v4_3, v5, v6] ∧ (-9223372036854775808 ≤ x.f_Count ∧ x.f_Count < 9223372036854775808) ∧ (-9223372036854775808 ≤ x.f_Known ∧ x.f_Known < 9223372036854775808) ∧ Sep n w0 w (Ck.own (Kd.slice 5 Kd.u8) f0 [v0] x.f_Seed :: Ck.own kPost f3 [v3_0, .int .i64 x.f_Post.f_Time, v3_2, .int .i64 x.f_Post.f_Sure] x.f_Post :: Ck.own kReader f4 [v4_0, .int .i64 x.f_Reader.f_Epoch, v4_2, v4_3] x.f_Reader :: Ck.own (Kd.slice 64 kWire) f5 [v5] x.f_Net :: Ck.own (Kd.slice 66 kSent) f6 [v6] x.f_Sent :: L) := by
  have H : Sep n w0 w (Ck.own (Kd.pair (Kd.slice 5 Kd.u8) (Kd.pair Kd.i64 (Kd.pair Kd.i64 (Kd.pair kPost (Kd.pair kReader (Kd.pair (Kd.slice 64 kWire) (Kd.slice 66 kSent))))))) fp cs (x.f_Seed, x.f_Count, x.f_Known, x.f_Post, x.f_Reader, x.f_Net, x.f_Sent) :: L) := H; obtain ⟨f0, q0, c0, d0, rfl, _, H⟩ := H.unpair; obtain ⟨v0, rfl⟩ := sl_one (H.own (d := (Kd.slice 5 Kd.u8)) (fp := f0) (cs := c0) (x := x.f_Seed) (.head _)); have H : Sep n w0 w (Ck.own (Kd.pair Kd.i64 (Kd.pair Kd.i64 (Kd.pair kPost (Kd.pair kReader (Kd.pair (Kd.slice 64 kWire) (Kd.slice 66 kSent)))))) q0 d0 (x.f_Count, x.f_Known, x.f_Post, x.f_Reader, x.f_Net, x.f_Sent) :: _) := H.front (.there .here); obtain ⟨f1, q1, c1, d1, rfl, _, H⟩ := H.unpair; obtain ⟨rfl, r1⟩ := (H.own (d := Kd.i64) (fp := f1) (cs := c1) (x := x.f_Count) (.head _)); have H := H.tail; have H : Sep n w0 w (Ck.own (Kd.pair Kd.i64 (Kd.pair kPost (Kd.pair kReader (Kd.pair (Kd.slice 64 kWire) (Kd.slice 66 kSent))))) q1 d1 (x.f_Known, x.f_Post, x.f_Reader, x.f_Net, x.f_Sent) :: _) := H; obtain ⟨f2, q2, c2, d2, rfl, _, H⟩ := H.unpair; obtain ⟨rfl, r2⟩ := (H.own (d := Kd.i64) (fp := f2) (cs := c2) (x := x.f_Known) (.head _)); have H := H.tail; have H : Sep n w0 w (Ck.own (Kd.pair kPost (Kd.pair kReader (Kd.pair (Kd.slice 64 kWire) (Kd.slice 66 kSent)))) q2 d2 (x.f_Post, x.f_Reader, x.f_Net, x.f_Sent) :: _) := H; obtain ⟨f3, q3, c3, d3, rfl, _, H⟩ := H.unpair; obtain ⟨v3_0, v3_2, rfl, _⟩ := kPost_open (H.own (d := kPost) (fp := f3) (cs := c3) (x := x.f_Post) (.head _)); have H : Sep n w0 w (Ck.own (Kd.pair kReader (Kd.pair (Kd.slice 64 kWire) (Kd.slice 66 kSent))) q3 d3 (x.f_Reader, x.f_Net, x.f_Sent) :: _) := H.front (.there .here); obtain ⟨f4, q4, c4, d4, rfl, _, H⟩ := H.unpair
  obtain ⟨v4_0, v4_2, v4_3, rfl, _⟩ := kReader_open (H.own (d := kReader) (fp := f4) (cs := c4) (x := x.f_Reader) (.head _)); have H : Sep n w0 w (Ck.own (Kd.pair (Kd.slice 64 kWire) (Kd.slice 66 kSent)) q4 d4 (x.f_Net, x.f_Sent) :: _) := H.front (.there .here); obtain ⟨f5, q5, c5, d5, rfl, _, H⟩ := H.unpair; obtain ⟨v5, rfl⟩ := sl_one (H.own (d := (Kd.slice 64 kWire)) (fp := f5) (cs := c5) (x := x.f_Net) (.head _)); have H : Sep n w0 w (Ck.own (Kd.slice 66 kSent) q5 d5 x.f_Sent :: _) := H.front (.there .here); obtain ⟨v6, rfl⟩ := sl_one (H.own (d := (Kd.slice 66 kSent)) (fp := q5) (cs := d5) (x := x.f_Sent) (.head _)); have H := H.front (c := Ck.own (Kd.slice 66 kSent) q5 [v6] x.f_Sent); have H := H.front (c := Ck.own (Kd.slice 64 kWire) f5 [v5] x.f_Net); have H := H.front (c := Ck.own kReader f4 [v4_0, .int .i64 x.f_Reader.f_Epoch, v4_2, v4_3] x.f_Reader); have H := H.front (c := Ck.own kPost f3 [v3_0, .int .i64 x.f_Post.f_Time, v3_2, .int .i64 x.f_Post.f_Sure] x.f_Post); have H := H.front (c := Ck.own (Kd.slice 5 Kd.u8) f0 [v0] x.f_Seed); exact ⟨v0, v3_0, v3_2, v4_0, v4_2, v4_3, v5, v6, f0, f3, f4, f5, q5, rfl, r1, r2, H⟩

def littleB (n : Int) (many : Int) : List UInt8 := if 0 ≤ n ∧ 1 ≤ many ∧ many ≤ 8 then (List.range many.toNat).map fun i => UInt8.ofNat (n.toNat / 256 ^ i % 256) else []
theorem littleB_len (n many : Int) : (littleB n many).length ≤ 8 := by
  unfold littleB
  split
  · simp; omega
  · simp
theorem u8_of (m : Nat) : ((m % 256 : Nat) : Int) % 256 = ((UInt8.ofNat (m % 256)).toNat : Int) := by rw [UInt8.toNat_ofNat']; omega
theorem u8_of' (m : Nat) : (m : Int) % 256 = ((UInt8.ofNat (m % 256)).toNat : Int) := by rw [UInt8.toNat_ofNat']; omega
theorem lit_step (n k : Nat) : ((List.range (k + 1)).map fun i => UInt8.ofNat (n / 256 ^ i % 256)) = ((List.range k).map fun i => UInt8.ofNat (n / 256 ^ i % 256)) ++ [UInt8.ofNat (n / 256 ^ k % 256)] := by
  rw [List.range_succ, List.map_append]; rfl
theorem shr8 (n k : Nat) (h : n < 9223372036854775808) : ishr .i64 ((n / 256 ^ k : Nat) : Int) 8 = ((n / 256 ^ (k + 1) : Nat) : Int) := by
  have e : 256 ^ (k + 1) = 256 ^ k * 2 ^ 8 := Nat.pow_succ ..; rw [ishr_nat (by omega), Nat.shiftRight_eq_div_pow, Nat.div_div_eq_div_mul, e]
theorem specLittle_ok (w : World) (n many : Int) (hn : n < 9223372036854775808) :
    ACalls Tryz.prog 124 #[.int .i64 n, .int .i64 many] w fun r w' => ∃ fp, Sep w.heap.size w w' [Ck.own (bytes 5) fp [r] (littleB n many)] := by
  have H := Sep.start w; refine body_of follows Tryz.func124 rfl rfl _ rfl (by kernel_rfl) ?_
  by_cases h1 : n < 0
  · refine ve h1 ?_
    refine x_emp H pl_u8 sl22 fun g w1 H => ?_; refine ve h1 ?_; have e : littleB n many = [] := by unfold littleB; rw [if_neg (by omega)]
    rw [e]; exact ⟨_, H⟩
  refine ve h1 ?_; refine x_emp H pl_u8 sl22 fun g w1 H => ?_; refine ve h1 ?_; refine x_callw (l1In_ok w1 _ _ _) ?_
  by_cases h2 : 1 ≤ many ∧ many ≤ 8
  · refine ve h2 ?_
    obtain ⟨m, rfl⟩ : ∃ m : Nat, many = (m : Int) := ⟨many.toNat, by omega⟩; obtain ⟨n, rfl⟩ : ∃ q : Nat, n = (q : Int) := ⟨n.toNat, by omega⟩
    have e : littleB (n : Int) (m : Int) = (List.range m).map fun i => UInt8.ofNat (n / 256 ^ i % 256) := by
      unfold littleB; rw [if_pos ⟨by omega, h2⟩]; simp
    rw [e]
    refine loop_at (σ := Nat × Value × List Nat) (fun x => [(0, .int .i64 ((n / 256 ^ x.1 : Nat) : Int)), (1, .int .i64 (m : Int)), (5, x.2.1), (6, .int .i64 (x.1 : Int))])
      (fun x w' => x.1 ≤ m ∧ Sep w.heap.size w w' [Ck.own (bytes 5) x.2.2 [x.2.1] ((List.range x.1).map fun i => UInt8.ofNat (n / 256 ^ i % 256))]) (fun x => m - x.1) (0, _, _) (vs ?_) ⟨Nat.zero_le _, H⟩ ?_
    · exact i64_eq (by simp)
    rintro ⟨k, v, fp⟩ s w2 ⟨hk, H⟩; dsimp only at hk H; refine vs (ways ?_ ?_)
    · refine vh fun hlt => ?_
      have hq : n / 256 ^ k < 9223372036854775808 := Nat.lt_of_le_of_lt (Nat.div_le_self _ _) (by omega)
      have e2 : iand .i64 ((n / 256 ^ k : Nat) : Int) 255 = ((n / 256 ^ k % 256 : Nat) : Int) := by
        have h3 : iand .i64 ((n / 256 ^ k : Nat) : Int) 255 = ((n / 256 ^ k &&& 255 : Nat) : Int) := iand_nat (b := 255) hq; have h4 : n / 256 ^ k &&& 255 = n / 256 ^ k % 256 := Nat.and_two_pow_sub_one_eq_mod _ 8; rw [h3, h4]
      rw [e2, u8_of]; refine x_lst H pl_u8 sl22 [UInt8.ofNat (n / 256 ^ k % 256)] (by simp) fun g3 w4 H => vs ?_; refine x_app H pl_u8 sl22 (H.own (.head _)) ?_ ?_ fun fp5 v5 w5 H => vs ?_
      · simp only [List.length_cons, List.length_nil, List.length_map, List.length_range]; omega
      · simp only [List.length_cons, List.length_nil, List.length_map, List.length_range]; omega
      rw [shr8 n k (by omega)]; refine ⟨(k + 1, v5, fp5), ⟨rfl, rfl, i64_eq (by show w64 ((k : Int) + 1) = ((k + 1 : Nat) : Int); unfold w64; omega)⟩, ⟨by show k + 1 ≤ m; omega, ?_⟩, by show m - (k + 1) < m - k; omega⟩; dsimp only; rw [lit_step]; exact H.tail
    · refine vh fun hlt => ?_
      obtain rfl : k = m := by omega
      exact ⟨_, H⟩
  · refine ve h2 ?_
    have e : littleB n many = [] := by unfold littleB; rw [if_neg (by omega)]
    rw [e]; exact ⟨_, H⟩
def greatB (n many : Int) : List UInt8 := (littleB n many).reverse
theorem greatB_len (n many : Int) : (greatB n many).length ≤ 8 := by unfold greatB; rw [List.length_reverse]; exact littleB_len n many
theorem specGreat_ok (w : World) (n many : Int) (hn : n < 9223372036854775808) :
    ACalls Tryz.prog 103 #[.int .i64 n, .int .i64 many] w fun r w' => ∃ fp, Sep w.heap.size w w' [Ck.own (bytes 5) fp [r] (greatB n many)] := by
  refine body_of follows Tryz.func103 rfl rfl _ rfl (by kernel_rfl) (vs ?_); refine x_callf (Sep.start w) (specLittle_ok w n many hn) fun r1 f1 w1 H => ?_; have hlen := littleB_len n many; unfold greatB; generalize littleB n many = a at *; obtain ⟨A, c, rfl, hc1, hc2, ha⟩ := sl_open (H.own (.head _)); refine vs ?_; refine x_emp H pl_u8 sl22 fun g w2 H => vs ?_
  refine loop_at (σ := Nat × Value × List Nat) (fun x => [(5, .slice A a.length c), (6, x.2.1), (7, .int .i64 ((a.length : Int) - 1 - x.1))])
    (fun x w' => x.1 ≤ a.length ∧ Sep w.heap.size w w' [Ck.own (bytes 5) x.2.2 [x.2.1] (a.reverse.take x.1), Ck.own (bytes 5) f1 [.slice A a.length c] a]) (fun x => a.length - x.1) (0, _, _) (vs ?_) ⟨Nat.zero_le _, H⟩ ?_
  · exact i64_eq (by unfold w64; omega)
  rintro ⟨k, v, fp⟩ s w3 ⟨hk, H⟩; dsimp only at hk H; refine vs (ways ?_ ?_)
  · refine vh fun hge => ?_
    have hk2 : k < a.length := by omega
    obtain ⟨A', c', he, _, _, ha'⟩ := sl_open (H.own (.tail _ (.head _)))
    cases he
    have e1 : (a.length : Int) - 1 - (k : Int) = ((a.length - 1 - k : Nat) : Int) := by omega
    rw [e1]; refine x_el pl_u8 sl22 ha' (by omega) (by omega) fun ad hb hc _ => vs ?_; refine x_load sc5 hc (vs ?_); refine x_lst H pl_u8 sl22 [a[a.length - 1 - k]'(by omega)] (by simp) fun g3 w4 H => vs ?_; refine x_app H pl_u8 sl22 (H.own (.head _)) ?_ ?_ fun fp5 v5 w5 H => vs ?_
    · simp only [List.length_cons, List.length_nil, List.length_take, List.length_reverse]; omega
    · simp only [List.length_cons, List.length_nil, List.length_take, List.length_reverse]; omega
    refine ⟨(k + 1, v5, fp5), ⟨rfl, i64_eq (by show w64 (((a.length - 1 - k : Nat) : Int) - 1) = (a.length : Int) - 1 - ((k + 1 : Nat) : Int); unfold w64; omega)⟩, ⟨hk2, ?_⟩, by show a.length - (k + 1) < a.length - k; omega⟩; dsimp only; rw [List.take_succ_eq_append_getElem (by simpa using hk2), List.getElem_reverse]; exact H.tail
  · refine vh fun hge => ?_
    obtain rfl : k = a.length := by omega
    rw [List.take_of_length_le (by simp)] at H; exact ⟨_, H.head⟩
def signs16 : List UInt8 := [48, 49, 50, 51, 52, 53, 54, 55, 56, 57, 97, 98, 99, 100, 101, 102]
theorem signs16_len : signs16.length = 16 := rfl
def sgn (n : Nat) : UInt8 := signs16.getD n 0
def hexB : List UInt8 → List UInt8
  | [] => []
  | b :: l => sgn (b.toNat / 16) :: sgn (b.toNat % 16) :: hexB l
theorem hexB_app (l m : List UInt8) : hexB (l ++ m) = hexB l ++ hexB m := by
  induction l with
  | nil => rfl
  | cons b l ih => simp only [List.cons_append, hexB, ih]
theorem hexB_one (b : UInt8) : hexB [b] = [sgn (b.toNat / 16), sgn (b.toNat % 16)] := rfl
theorem hexB_len (l : List UInt8) : (hexB l).length = 2 * l.length := by
  induction l with
  | nil => rfl
  | cons b l ih => simp only [hexB, List.length_cons, ih]; omega
theorem hexB_succ {l : List UInt8} {k : Nat} (h : k < l.length) : hexB (l.take (k + 1)) = hexB (l.take k) ++ [sgn (l[k].toNat / 16), sgn (l[k].toNat % 16)] := by
  rw [List.take_succ_eq_append_getElem h, hexB_app, hexB_one]
def hx (c : UInt8) : Int := Go.Lib.indexByte signs16 c
def hxR (c : UInt8) : Int :=
  if 48 ≤ c.toNat ∧ c.toNat ≤ 57 then (c.toNat : Int) - 48 else if 97 ≤ c.toNat ∧ c.toNat ≤ 102 then (c.toNat : Int) - 87 else -1
theorem hx_eq (c : UInt8) : hx c = hxR c := by
  have key : ∀ n : Fin 256, hx (UInt8.ofNat n.val) = hxR (UInt8.ofNat n.val) := by decide +kernel
  have h := key ⟨c.toNat, c.toNat_lt⟩; have e : UInt8.ofNat c.toNat = c := by simp
  simp only [e] at h; exact h
theorem hx_range (c : UInt8) : -1 ≤ hx c ∧ hx c ≤ 15 := by
  rw [hx_eq]; unfold hxR
  split <;> (try split) <;> omega
theorem sgn_hx (c : UInt8) (h : 0 ≤ hx c) : sgn (hx c).toNat = c := by
  have key : ∀ n : Fin 256, 0 ≤ hx (UInt8.ofNat n.val) → sgn (hx (UInt8.ofNat n.val)).toNat = UInt8.ofNat n.val := by decide +kernel
  have h2 := key ⟨c.toNat, c.toNat_lt⟩; have e : UInt8.ofNat c.toNat = c := by simp
  simp only [e] at h2; exact h2 h
def pairs : List UInt8 → List (UInt8 × UInt8)
  | a :: b :: l => (a, b) :: pairs l
  | _ => []
theorem pairs_len : ∀ (l : List UInt8), (pairs l).length = l.length / 2
  | [] => rfl
  | [_] => by simp [pairs]
  | a :: b :: l => by simp only [pairs, List.length_cons, pairs_len l]; omega
theorem pairs_get : ∀ (l : List UInt8) (k : Nat) (h : k < (pairs l).length), (pairs l)[k] = (l.getD (2 * k) 0, l.getD (2 * k + 1) 0)
  | [], k, h => absurd h (by simp [pairs])
  | [_], k, h => absurd h (by simp [pairs])
  | a :: b :: l, 0, h => by simp [pairs]
  | a :: b :: l, k + 1, h => by
    have ih := pairs_get l k (by simpa [pairs] using h); simp only [pairs, List.getElem_cons_succ, ih]; rw [show 2 * (k + 1) = 2 * k + 1 + 1 by omega, show 2 * k + 1 + 1 + 1 = 2 * k + 1 + 1 + 1 from rfl]
    simp [List.getD]
def pairOk (p : UInt8 × UInt8) : Bool := decide (0 ≤ hx p.1 ∧ 0 ≤ hx p.2)
def pairB (p : UInt8 × UInt8) : UInt8 := UInt8.ofNat (16 * (hx p.1).toNat + (hx p.2).toNat)
def unhexOk (s : List UInt8) : Bool := decide (s.length % 2 = 0) && (pairs s).all pairOk
def unhexB (s : List UInt8) : List UInt8 := if unhexOk s = true then (pairs s).map pairB else []
theorem unhexB_len {s : List UInt8} (h : unhexOk s = true) : 2 * (unhexB s).length = s.length := by
  unfold unhexB; rw [if_pos h, List.length_map, pairs_len]; unfold unhexOk at h; simp only [Bool.and_eq_true, decide_eq_true_eq] at h
  omega
theorem unhex_odd {s : List UInt8} (h : ¬ s.length % 2 = 0) : unhexOk s = false ∧ unhexB s = [] := by
  have h1 : unhexOk s = false := by unfold unhexOk; rw [decide_eq_false h]; rfl
  exact ⟨h1, by simp [unhexB, h1]⟩
theorem unhex_bad {s : List UInt8} {k : Nat} (hk : k < (pairs s).length) (h : hx (s.getD (2 * k) 0) < 0 ∨ hx (s.getD (2 * k + 1) 0) < 0) : unhexOk s = false ∧ unhexB s = [] := by
  have h1 : unhexOk s = false := by
    unfold unhexOk; rw [Bool.and_eq_false_iff]
    right
    rw [Bool.eq_false_iff]; intro ha; have := List.all_eq_true.1 ha _ (List.getElem_mem hk); rw [pairs_get] at this; unfold pairOk at this; simp only [decide_eq_true_eq] at this
    omega
  exact ⟨h1, by simp [unhexB, h1]⟩
theorem unhex_good {s : List UInt8} (he : s.length % 2 = 0) (h : ∀ k, k < (pairs s).length → 0 ≤ hx (s.getD (2 * k) 0) ∧ 0 ≤ hx (s.getD (2 * k + 1) 0)) : unhexOk s = true ∧ unhexB s = (pairs s).map pairB := by
  have h1 : unhexOk s = true := by
    unfold unhexOk; rw [decide_eq_true he, Bool.true_and, List.all_eq_true]; intro p hp; obtain ⟨k, hk, rfl⟩ := List.getElem_of_mem hp; rw [pairs_get]; unfold pairOk; exact decide_eq_true (h k hk)
  exact ⟨h1, by simp [unhexB, h1]⟩
theorem pairs_succ {s : List UInt8} {k : Nat} (hk : k < (pairs s).length) : ((pairs s).take (k + 1)).map pairB = ((pairs s).take k).map pairB ++ [UInt8.ofNat (16 * (hx (s.getD (2 * k) 0)).toNat + (hx (s.getD (2 * k + 1) 0)).toNat)] := by
  rw [List.take_succ_eq_append_getElem hk, List.map_append, pairs_get]; rfl
theorem hex_unhexP : ∀ (s : List UInt8), s.length % 2 = 0 → (∀ p ∈ pairs s, pairOk p = true) → hexB ((pairs s).map pairB) = s
  | [], _, _ => rfl
  | [_], h, _ => by simp at h
  | a :: b :: l, h, ha => by
    have ih := hex_unhexP l (by simp only [List.length_cons] at h; omega) (fun p hp => ha p (by simp only [pairs]; exact List.mem_cons_of_mem _ hp)); have h1 := ha (a, b) (by simp only [pairs]; exact List.mem_cons_self ..); unfold pairOk at h1; simp only [decide_eq_true_eq] at h1; have r1 := hx_range a; have r2 := hx_range b; simp only [pairs, List.map_cons, hexB, ih]
    have e : (pairB (a, b)).toNat = 16 * (hx a).toNat + (hx b).toNat := by
      unfold pairB; rw [UInt8.toNat_ofNat']; dsimp only; omega
    rw [e, show (16 * (hx a).toNat + (hx b).toNat) / 16 = (hx a).toNat by omega, show (16 * (hx a).toNat + (hx b).toNat) % 16 = (hx b).toNat by omega, sgn_hx a h1.1, sgn_hx b h1.2]
theorem hex_unhex {s : List UInt8} (h : unhexOk s = true) : hexB (unhexB s) = s := by
  have h2 := h; unfold unhexOk at h2; simp only [Bool.and_eq_true, decide_eq_true_eq] at h2; unfold unhexB; rw [if_pos h]; exact hex_unhexP s h2.1 fun p hp => List.all_eq_true.1 h2.2 p hp
def isRoute (s : List UInt8) : Bool := unhexOk s && decide (s.length = 16)
theorem isRoute_spec (s : List UInt8) : isRoute s = (unhexOk s && decide ((unhexB s).length = 8)) := by
  unfold isRoute
  cases h : unhexOk s with
  | false => rfl
  | true =>
    have := unhexB_len h; rw [Bool.true_and, Bool.true_and]; exact decide_eq_decide.2 (by omega)
theorem iand_def (a b : Int) : iand .i64 a b = w64 ((BitVec.ofInt 64 a &&& BitVec.ofInt 64 b).toNat : Int) := by unfold iand; rw [wrap_i64]; rfl
@[irreducible] def word (n : Int) : Int := n % 4294967296
theorem word_range (n : Int) : 0 ≤ word n ∧ word n < 4294967296 := by unfold word; omega
theorem iand_mask (n : Int) (k : Nat) (hk : k ≤ 62) : iand .i64 n ((2 ^ k - 1 : Nat) : Int) = n % ((2 ^ k : Nat) : Int) := by
  have hp : 2 ^ k ≤ 2 ^ 62 := Nat.pow_le_pow_right (by omega) hk; have h0 : 0 < 2 ^ k := Nat.pow_pos (by omega); have hd : 2 ^ k ∣ 2 ^ 64 := Nat.pow_dvd_pow 2 (by omega)
  have e1 : (BitVec.ofInt 64 n &&& BitVec.ofInt 64 ((2 ^ k - 1 : Nat) : Int)).toNat = (n % ((2 ^ k : Nat) : Int)).toNat := by
    rw [BitVec.toNat_and, BitVec.toNat_ofInt, BitVec.toNat_ofInt]; have e2 : (((2 ^ k - 1 : Nat) : Int) % ((2 ^ 64 : Nat) : Int)).toNat = 2 ^ k - 1 := by omega
    rw [e2, Nat.and_two_pow_sub_one_eq_mod]
    have e3 : ((n % ((2 ^ 64 : Nat) : Int)).toNat % 2 ^ k : Nat) = (((n % ((2 ^ 64 : Nat) : Int)) % ((2 ^ k : Nat) : Int))).toNat := by
      have hx : 0 ≤ n % ((2 ^ 64 : Nat) : Int) := Int.emod_nonneg _ (by decide); obtain ⟨x, hx⟩ := Int.eq_ofNat_of_zero_le hx; rw [hx, ← Int.natCast_emod, Int.toNat_natCast, Int.toNat_natCast]
    rw [e3, Int.emod_emod_of_dvd _ (Int.natCast_dvd_natCast.2 hd)]
  have h1 : 0 ≤ n % ((2 ^ k : Nat) : Int) := Int.emod_nonneg _ (by omega); have h2 : n % ((2 ^ k : Nat) : Int) < ((2 ^ k : Nat) : Int) := Int.emod_lt_of_pos _ (by omega); rw [iand_def, e1, Int.toNat_of_nonneg h1, w64_id (by omega) (by omega)]
theorem iand_word (n : Int) : iand .i64 n 4294967295 = word n := by
  have := iand_mask n 32 (by omega); unfold word; exact this
theorem iand_31 (n : Int) : iand .i64 n 31 = ((n % 32).toNat : Int) := by
  have := iand_mask n 5 (by omega); have e : iand .i64 n 31 = n % 32 := this; rw [e]; omega
def ch (e f g : Int) : Int := ixor .i64 (iand .i64 e f) (iand .i64 (ixor .i64 4294967295 e) g)
def maj (a b c : Int) : Int := ixor .i64 (ixor .i64 (iand .i64 a b) (iand .i64 a c)) (iand .i64 b c)
def turn (n k : Int) : Int := word (ior .i64 (ishl .i64 (word n) (k % 32).toNat) (ishr .i64 (word n) (32 - (k % 32).toNat)))
def mix (x : Int) (a b c : Nat) (s : Bool) : Int := ixor .i64 (ixor .i64 (turn x (32 - a)) (turn x (32 - b))) (if s = true then ishr .i64 (word x) c else turn x (32 - c))
def w4 (a b c d : UInt8) : Int := ior .i64 (ior .i64 (ior .i64 (ishl .i64 (a.toNat : Int) 24) (ishl .i64 (b.toNat : Int) 16)) (ishl .i64 (c.toNat : Int) 8)) (d.toNat : Int)
theorem w4_range (a b c d : UInt8) : 0 ≤ w4 a b c d ∧ w4 a b c d < 4294967296 := by
  have ha := a.toNat_lt; have hb := b.toNat_lt; have hc := c.toNat_lt; have hd := d.toNat_lt; unfold w4; rw [ishl_nat (by omega) (by omega), ishl_nat (by omega) (by omega), ishl_nat (by omega) (by omega)]; have e1 : a.toNat <<< 24 < 2 ^ 32 := by rw [Nat.shiftLeft_eq]; omega
  have e2 : b.toNat <<< 16 < 2 ^ 32 := by rw [Nat.shiftLeft_eq]; omega
  have e3 : c.toNat <<< 8 < 2 ^ 32 := by rw [Nat.shiftLeft_eq]; omega
  have o1 := Nat.or_lt_two_pow e1 e2; have o2 := Nat.or_lt_two_pow o1 e3; have o3 := Nat.or_lt_two_pow o2 (show d.toNat < 2 ^ 32 by omega); rw [ior_nat (by omega) (by omega), ior_nat (by omega) (by omega), ior_nat (by omega) (by omega)]
  omega
def wordsN (b : List UInt8) (k : Nat) : List Int := (List.range k).map fun i => w4 (b.getD (4 * i) 0) (b.getD (4 * i + 1) 0) (b.getD (4 * i + 2) 0) (b.getD (4 * i + 3) 0)
theorem wordsN_succ (b : List UInt8) (k : Nat) : wordsN b (k + 1) = wordsN b k ++ [w4 (b.getD (4 * k) 0) (b.getD (4 * k + 1) 0) (b.getD (4 * k + 2) 0) (b.getD (4 * k + 3) 0)] := by
  unfold wordsN; rw [List.range_succ, List.map_append]; rfl
def Words (l : List Int) : Prop := ∀ x ∈ l, 0 ≤ x ∧ x < 4294967296
theorem wordsN_words (b : List UInt8) (k : Nat) : Words (wordsN b k) := by
  intro x hx; obtain ⟨i, _, rfl⟩ := List.mem_map.1 hx; exact w4_range ..
theorem Words.app {l m : List Int} (h : Words l) (h' : Words m) : Words (l ++ m) := fun x hx => (List.mem_append.1 hx).elim (h x) (h' x)
theorem Words.one (n : Int) : Words [word n] := fun x hx => by simp only [List.mem_singleton] at hx; subst hx; exact word_range n
theorem Words.getD {l : List Int} (h : Words l) (i : Nat) : 0 ≤ l.getD i 0 ∧ l.getD i 0 < 4294967296 := by
  rw [List.getD_eq_getElem?_getD]
  cases hx : l[i]? with
  | none => simp
  | some x => simp only [Option.getD_some]; exact h x (List.mem_of_getElem? hx)
def more (w : List Int) : Int := word (w64 (w64 (w64 (mix (w.getD (w.length - 2) 0) 17 19 10 true + w.getD (w.length - 7) 0) + mix (w.getD (w.length - 15) 0) 7 18 3 true) + w.getD (w.length - 16) 0))
def sched (b : List UInt8) : Nat → List Int
  | 0 => wordsN b 16
  | n + 1 => sched b n ++ [more (sched b n)]
theorem sched_len (b : List UInt8) : ∀ n, (sched b n).length = 16 + n
  | 0 => by simp [sched, wordsN]
  | n + 1 => by simp [sched, sched_len b n]; omega
theorem sched_words (b : List UInt8) : ∀ n, Words (sched b n)
  | 0 => wordsN_words b 16
  | n + 1 => (sched_words b n).app (Words.one _)
def table64 : List Int := [0x428a2f98, 0x71374491, 0xb5c0fbcf, 0xe9b5dba5, 0x3956c25b, 0x59f111f1, 0x923f82a4, 0xab1c5ed5, 0xd807aa98, 0x12835b01, 0x243185be, 0x550c7dc3, 0x72be5d74, 0x80deb1fe, 0x9bdc06a7, 0xc19bf174, 0xe49b69c1, 0xefbe4786, 0x0fc19dc6, 0x240ca1cc, 0x2de92c6f, 0x4a7484aa, 0x5cb0a9dc, 0x76f988da, 0x983e5152, 0xa831c66d, 0xb00327c8, 0xbf597fc7, 0xc6e00bf3, 0xd5a79147, 0x06ca6351, 0x14292967, 0x27b70a85, 0x2e1b2138, 0x4d2c6dfc, 0x53380d13, 0x650a7354, 0x766a0abb, 0x81c2c92e, 0x92722c85, 0xa2bfe8a1, 0xa81a664b, 0xc24b8b70, 0xc76c51a3, 0xd192e819, 0xd6990624, 0xf40e3585, 0x106aa070, 0x19a4c116, 0x1e376c08, 0x2748774c, 0x34b0bcb5, 0x391c0cb3, 0x4ed8aa4a, 0x5b9cca4f, 0x682e6ff3, 0x748f82ee, 0x78a5636f, 0x84c87814, 0x8cc70208, 0x90befffa, 0xa4506ceb, 0xbef9a3f7, 0xc67178f2]
def start8 : List Int := [0x6a09e667, 0xbb67ae85, 0x3c6ef372, 0xa54ff53a, 0x510e527f, 0x9b05688c, 0x1f83d9ab, 0x5be0cd19]
theorem table64_len : table64.length = 64 := rfl
theorem table64_words : Words table64 := by unfold Words table64; decide
theorem start8_words : Words start8 := by unfold Words start8; decide
structure S8 where
  a : Int
  b : Int
  c : Int
  d : Int
  e : Int
  f : Int
  g : Int
  h : Int
def S8.list (s : S8) : List Int := [s.a, s.b, s.c, s.d, s.e, s.f, s.g, s.h]
def S8.of (l : List Int) : S8 := ⟨word (l.getD 0 0), word (l.getD 1 0), word (l.getD 2 0), word (l.getD 3 0), word (l.getD 4 0), word (l.getD 5 0), word (l.getD 6 0), word (l.getD 7 0)⟩
def S8.one (s : S8) (k w : Int) : Int := w64 (w64 (w64 (w64 (s.h + mix s.e 6 11 25 false) + ch s.e s.f s.g) + k) + w)
def S8.two (s : S8) : Int := w64 (mix s.a 2 13 22 false + maj s.a s.b s.c)
def S8.round (s : S8) (k w : Int) : S8 := ⟨word (w64 (s.one k w + s.two)), s.a, s.b, s.c, word (w64 (s.d + s.one k w)), s.e, s.f, s.g⟩
def S8.run (s : S8) (l : List Int) : Nat → S8
  | 0 => s
  | t + 1 => (S8.run s l t).round (table64.getD t 0) (l.getD t 0)
theorem S8.of_words (l : List Int) : Words (S8.of l).list := by
  intro x hx; simp only [S8.list, S8.of, List.mem_cons, List.not_mem_nil, or_false] at hx
  rcases hx with rfl | rfl | rfl | rfl | rfl | rfl | rfl | rfl <;> exact word_range _
theorem S8.round_words {s : S8} (h : Words s.list) (k w : Int) : Words (s.round k w).list := by
  intro x hx; simp only [S8.list, S8.round, List.mem_cons, List.not_mem_nil, or_false] at hx
  rcases hx with rfl | rfl | rfl | rfl | rfl | rfl | rfl | rfl
  · exact word_range _
  · exact h _ (by simp [S8.list])
  · exact h _ (by simp [S8.list])
  · exact h _ (by simp [S8.list])
  · exact word_range _
  · exact h _ (by simp [S8.list])
  · exact h _ (by simp [S8.list])
  · exact h _ (by simp [S8.list])
theorem S8.run_words {s : S8} (h : Words s.list) (l : List Int) : ∀ t, Words (s.run l t).list
  | 0 => h
  | t + 1 => S8.round_words (S8.run_words h l t) _ _
def hashBlock (st : List Int) (b : List UInt8) : List Int := (List.range 8).map fun i => word (w64 ((((S8.of st).run (sched b 48) 64).list).getD i 0 + word (st.getD i 0)))
theorem hashBlock_len (st : List Int) (b : List UInt8) : (hashBlock st b).length = 8 := by simp [hashBlock]
def zerosFor (n : Nat) : Nat := (119 - n % 64) % 64
def itemOk (x : MItem) : Bool := isRoute x.f_Route && decide (0 ≤ x.f_Topic ∧ x.f_Topic ≤ 9) && decide (0 ≤ x.f_Due ∧ x.f_Due ≤ 100000) && decide (x.f_Bytes.length ≤ 1560)
theorem itemOk_iff {x : MItem} : itemOk x = true ↔ isRoute x.f_Route = true ∧ (0 ≤ x.f_Topic ∧ x.f_Topic ≤ 9) ∧ (0 ≤ x.f_Due ∧ x.f_Due ≤ 100000) ∧ x.f_Bytes.length ≤ 1560 := by
  unfold itemOk; simp only [Bool.and_eq_true, decide_eq_true_eq, and_assoc]
def hasR (r : List UInt8) (x : MItem) : Bool := decide (x.f_Route = r)
def ofN (q : List MItem) (r : List UInt8) : Nat := q.countP (hasR r)
theorem ofN_le (q : List MItem) (r : List UInt8) : ofN q r ≤ q.length := List.countP_le_length
theorem ofN_succ {q : List MItem} {k : Nat} (h : k < q.length) (r : List UInt8) : ofN (q.take (k + 1)) r = ofN (q.take k) r + (if q[k].f_Route = r then 1 else 0) := by
  unfold ofN; rw [List.take_succ_eq_append_getElem h, List.countP_append, List.countP_singleton]; unfold hasR; simp only [decide_eq_true_eq]
def twin (x y : MItem) : Bool := decide (y.f_Route = x.f_Route) && decide (y.f_Topic = x.f_Topic)
def itAt (q : List MItem) (i : Nat) : MItem := q.getD i zItem
theorem itAt_eq {q : List MItem} {i : Nat} (h : i < q.length) : itAt q i = q[i] := by unfold itAt; rw [List.getD_eq_getElem?_getD, List.getElem?_eq_getElem h, Option.getD_some]
def qAt (q : List MItem) (i : Nat) : Bool := itemOk (itAt q i) && decide (ofN q (itAt q i).f_Route ≤ 4) && !(decide (0 < (itAt q i).f_Topic) && (q.take i).any (twin (itAt q i)))
def queueOk (q : List MItem) : Bool := decide (q.length ≤ 10) && (List.range q.length).all (qAt q)
theorem queueOk_iff {q : List MItem} : queueOk q = true ↔ q.length ≤ 10 ∧ ∀ i, i < q.length → qAt q i = true := by
  unfold queueOk; simp only [Bool.and_eq_true, decide_eq_true_eq, List.all_eq_true, List.mem_range]
theorem queueOk_bad {q : List MItem} {i : Nat} (hi : i < q.length) (h : qAt q i = false) : queueOk q = false := by
  rw [Bool.eq_false_iff]; intro hq; have := (queueOk_iff.1 hq).2 i hi; rw [h] at this; cases this
theorem queueOk_long {q : List MItem} (h : ¬ q.length ≤ 10) : queueOk q = false := by
  unfold queueOk; rw [decide_eq_false h]; rfl
theorem queueOk_item {q : List MItem} (h : queueOk q = true) : ∀ x ∈ q, itemOk x = true := by
  intro x hx; obtain ⟨i, hi, rfl⟩ := List.getElem_of_mem hx; have := (queueOk_iff.1 h).2 i hi; unfold qAt at this; rw [itAt_eq hi] at this; simp only [Bool.and_eq_true] at this; exact this.1.1
def keepP (x y : MItem) : Bool := !(decide (0 < x.f_Topic) && twin x y)
def putL (q : List MItem) (x : MItem) : List MItem := q.filter (keepP x) ++ [x]
theorem putL_len (q : List MItem) (x : MItem) : (putL q x).length ≤ q.length + 1 := by
  unfold putL; rw [List.length_append]; have := List.length_filter_le (keepP x) q; simp only [List.length_cons, List.length_nil]; omega
def put (q : List MItem) (x : MItem) : List MItem × Bool := if queueOk (putL q x) = true then (putL q x, true) else (q, false)
def dueP (now : Int) (x : MItem) : Bool := decide (now ≤ x.f_Due)
def due (q : List MItem) (now : Int) : List MItem := q.filter (dueP now)
def takeAt (q : List MItem) (r : List UInt8) : Option Nat := q.findIdx? (hasR r)
def takeQ (q : List MItem) (r : List UInt8) : MItem × List MItem × Bool :=
  match takeAt q r with
  | some i => (itAt q i, q.eraseIdx i, true)
  | none => (zItem, q, false)
theorem takeAt_some {q : List MItem} {r : List UInt8} {i : Nat} (hi : i < q.length) (h : hasR r q[i] = true) (hn : ∀ j (hj : j < q.length), j < i → hasR r q[j] = false) : takeAt q r = some i := by
  unfold takeAt; rw [List.findIdx?_eq_some_iff_getElem]; exact ⟨hi, h, fun j hj => by simpa using hn j (by omega) hj⟩
theorem takeAt_none {q : List MItem} {r : List UInt8} (hn : ∀ j (hj : j < q.length), hasR r q[j] = false) : takeAt q r = none := by
  unfold takeAt; rw [List.findIdx?_eq_none_iff]; intro y hy; obtain ⟨j, hj, rfl⟩ := List.getElem_of_mem hy
  simpa using hn j hj
theorem takeQ_some {q : List MItem} {r : List UInt8} {i : Nat} (hi : i < q.length) (h : takeAt q r = some i) : takeQ q r = (q[i], q.eraseIdx i, true) := by
  unfold takeQ; rw [h]; simp only [itAt_eq hi]
theorem takeQ_none {q : List MItem} {r : List UInt8} (h : takeAt q r = none) : takeQ q r = (zItem, q, false) := by
  unfold takeQ; rw [h]
def itemOf (l : MLine) : MItem := ⟨l.f_Route, l.f_Topic, l.f_Due, l.f_Bytes⟩
def lineOk (l : MLine) : Bool :=
  if l.f_Kind = 1 then itemOk (itemOf l)
  else if l.f_Kind = 2 then isRoute l.f_Route && decide (l.f_Topic = 0) && decide (l.f_Due = 0) && decide (l.f_Bytes.length = 0)
  else if l.f_Kind = 3 then decide (0 ≤ l.f_Due ∧ l.f_Due ≤ 100000) && decide (l.f_Route = []) && decide (l.f_Topic = 0) && decide (l.f_Bytes.length = 0)
  else false
def u8i (n : Int) : UInt8 := UInt8.ofNat (n % 256).toNat
def lineRoute (l : MLine) : List UInt8 := if l.f_Kind = 3 then List.replicate 8 0 else unhexB l.f_Route
def lineHead (l : MLine) : List UInt8 := [u8i l.f_Kind] ++ lineRoute l ++ [u8i l.f_Topic] ++ greatB l.f_Due 4 ++ greatB (l.f_Bytes.length : Int) 2 ++ l.f_Bytes
def lineBytes (l : MLine) : List UInt8 := if lineOk l = true then lineHead l ++ greatB ((lineHead l).length : Int) 2 else []
theorem lineOk_kind {l : MLine} (h : lineOk l = true) : l.f_Kind = 1 ∨ l.f_Kind = 2 ∨ l.f_Kind = 3 := by
  unfold lineOk at h
  split at h
  · exact .inl ‹_›
  · split at h
    · exact .inr (.inl ‹_›)
    · split at h
      · exact .inr (.inr ‹_›)
      · cases h
theorem isRoute_len {s : List UInt8} (h : isRoute s = true) : unhexOk s = true ∧ (unhexB s).length = 8 := by
  rw [isRoute_spec] at h
  simpa using h
theorem lineOk_bytes {l : MLine} (h : lineOk l = true) : l.f_Bytes.length ≤ 1560 := by
  unfold lineOk at h
  split at h
  · exact (itemOk_iff.1 h).2.2.2
  · split at h
    · simp only [Bool.and_eq_true, decide_eq_true_eq] at h; omega
    · split at h
      · simp only [Bool.and_eq_true, decide_eq_true_eq] at h; omega
      · cases h
theorem lineRoute_len {l : MLine} (h : lineOk l = true) : (lineRoute l).length = 8 := by
  unfold lineRoute; unfold lineOk at h
  split
  · simp
  · rename_i h3
    split at h
    · exact (isRoute_len (itemOk_iff.1 h).1).2
    · split at h
      · simp only [Bool.and_eq_true] at h
        exact (isRoute_len h.1.1.1).2
      · first | cases h | (split at h <;> first | exact absurd ‹_› h3 | cases h)
theorem gB_len {n many : Int} (h : 0 ≤ n) (h1 : 1 ≤ many) (h2 : many ≤ 8) : (greatB n many).length = many.toNat := by
  unfold greatB littleB; rw [List.length_reverse, if_pos ⟨h, h1, h2⟩, List.length_map, List.length_range]
theorem lineOk_due {l : MLine} (h : lineOk l = true) : 0 ≤ l.f_Due ∧ l.f_Due ≤ 100000 := by
  unfold lineOk at h
  split at h
  · exact (itemOk_iff.1 h).2.2.1
  · split at h
    · simp only [Bool.and_eq_true, decide_eq_true_eq] at h; omega
    · split at h
      · simp only [Bool.and_eq_true, decide_eq_true_eq] at h; omega
      · cases h
theorem lineHead_len {l : MLine} (h : lineOk l = true) : (lineHead l).length = 16 + l.f_Bytes.length := by
  unfold lineHead; simp only [List.length_append, List.length_cons, List.length_nil, lineRoute_len h, gB_len (lineOk_due h).1 (many := 4) (by omega) (by omega), gB_len (n := (l.f_Bytes.length : Int)) (many := 2) (by omega) (by omega) (by omega)]; rw [show (4 : Int).toNat = 4 from rfl, show (2 : Int).toNat = 2 from rfl]
theorem lineBytes_len {l : MLine} (h : lineOk l = true) : (lineBytes l).length = 18 + l.f_Bytes.length := by
  unfold lineBytes; rw [if_pos h, List.length_append, lineHead_len h, gB_len (by omega) (by omega) (by omega), show (2 : Int).toNat = 2 from rfl]; omega
theorem lineBytes_no {l : MLine} (h : lineOk l = false) : lineBytes l = [] := by unfold lineBytes; rw [if_neg (by rw [h]; decide)]
theorem lineBytes_le (l : MLine) : (lineBytes l).length ≤ 1578 := by
  cases h : lineOk l with
  | false => rw [lineBytes_no h]; simp
  | true => rw [lineBytes_len h]; have := lineOk_bytes h; omega
def be (x : List UInt8) (i : Nat) : Nat := (x.getD i 0).toNat
def lineSz (x : List UInt8) : Nat := 256 * be x 14 + be x 15
def rawLine (x : List UInt8) : MLine :=
  ⟨be x 0, if be x 0 = 3 then [] else hexB ((x.drop 1).take 8), be x 9, w4 (x.getD 10 0) (x.getD 11 0) (x.getD 12 0) (x.getD 13 0), (x.drop 16).take (lineSz x)⟩
def lineAt (x : List UInt8) : Option (MLine × Nat) :=
  if 18 ≤ x.length ∧ 18 + lineSz x ≤ x.length ∧ lineBytes (rawLine x) = x.take (18 + lineSz x) then some (rawLine x, 18 + lineSz x) else none
theorem lineAt_no {x : List UInt8} (h : ¬ (18 ≤ x.length ∧ 18 + lineSz x ≤ x.length ∧ lineBytes (rawLine x) = x.take (18 + lineSz x))) : lineAt x = none := by unfold lineAt; rw [if_neg h]
theorem lineAt_yes {x : List UInt8} (h1 : 18 ≤ x.length) (h2 : 18 + lineSz x ≤ x.length) (h3 : lineBytes (rawLine x) = x.take (18 + lineSz x)) : lineAt x = some (rawLine x, 18 + lineSz x) := by unfold lineAt; rw [if_pos ⟨h1, h2, h3⟩]
theorem lineAt_len {x : List UInt8} {l : MLine} {n : Nat} (h : lineAt x = some (l, n)) : 18 ≤ n ∧ n ≤ x.length ∧ lineOk l = true ∧ lineBytes l = x.take n := by
  unfold lineAt at h
  split at h
  · rename_i hc
    simp only [Option.some.injEq, Prod.mk.injEq] at h; obtain ⟨rfl, rfl⟩ := h; refine ⟨by omega, hc.2.1, ?_, hc.2.2⟩
    cases hk : lineOk (rawLine x) with
    | true => rfl
    | false =>
      have h1 := congrArg List.length hc.2.2; rw [lineBytes_no hk, List.length_take, List.length_nil] at h1
      omega
  · cases h
def lineOf (b : List UInt8) (at_ : Int) : MLine × Int × Bool :=
  if 0 ≤ at_ ∧ at_ ≤ (b.length : Int) then
    match lineAt (b.drop at_.toNat) with
    | some (l, n) => (l, at_ + n, true)
    | none => (zLine, 0, false)
  else (zLine, 0, false)
theorem lineOf_out {b : List UInt8} {at_ : Int} (h : ¬ (0 ≤ at_ ∧ at_ ≤ (b.length : Int) - 18)) : lineOf b at_ = (zLine, 0, false) := by
  unfold lineOf
  split
  · rw [lineAt_no (by rw [List.length_drop]; omega)]
  · rfl
theorem lineOf_none {b : List UInt8} {k : Nat} (h : lineAt (b.drop k) = none) : lineOf b (k : Int) = (zLine, 0, false) := by
  unfold lineOf
  split
  · rw [Int.toNat_natCast, h]
  · rfl
theorem lineOf_some {b : List UInt8} {k : Nat} {l : MLine} {n : Nat} (hk : k ≤ b.length) (h : lineAt (b.drop k) = some (l, n)) : lineOf b (k : Int) = (l, ((k + n : Nat) : Int), true) := by
  unfold lineOf; rw [if_pos ⟨by omega, by omega⟩, Int.toNat_natCast, h]
  simp
def lineStep (q : List MItem) (now : Int) (l : MLine) : List MItem × Int :=
  if l.f_Kind = 1 then ((put q (itemOf l)).1, now)
  else if l.f_Kind = 2 then ((takeQ q l.f_Route).2.1, now)
  else if l.f_Kind = 3 then (if now ≤ l.f_Due then (due q l.f_Due, l.f_Due) else (q, now))
  else (q, now)
def playGo (x : List UInt8) (q : List MItem) (now : Int) (at_ : Nat) : List MItem × Int × Nat :=
  match h : lineAt x with
  | none => (q, now, at_)
  | some (l, n) => playGo (x.drop n) (lineStep q now l).1 (lineStep q now l).2 (at_ + n)
termination_by x.length
decreasing_by
  have := lineAt_len h; rw [List.length_drop]; omega
theorem playGo_none {x : List UInt8} {q : List MItem} {now : Int} {at_ : Nat} (h : lineAt x = none) : playGo x q now at_ = (q, now, at_) := by
  rw [playGo]
  split
  · rfl
  · rename_i h2; rw [h] at h2; cases h2
theorem playGo_some {x : List UInt8} {q : List MItem} {now : Int} {at_ : Nat} {l : MLine} {n : Nat} (h : lineAt x = some (l, n)) : playGo x q now at_ = playGo (x.drop n) (lineStep q now l).1 (lineStep q now l).2 (at_ + n) := by
  rw [playGo]
  split
  · rename_i h2; rw [h] at h2; cases h2
  · rename_i l2 n2 h2
    rw [h] at h2; simp only [Option.some.injEq, Prod.mk.injEq] at h2; obtain ⟨rfl, rfl⟩ := h2
    rfl
def play (b : List UInt8) : List MItem × Int × Nat := playGo b [] 0 0
def sameI (a b : MItem) : Bool := decide (a.f_Route = b.f_Route) && decide (a.f_Topic = b.f_Topic) && decide (a.f_Due = b.f_Due) && decide (a.f_Bytes = b.f_Bytes)
theorem sameI_iff {a b : MItem} : sameI a b = true ↔ a = b := by
  unfold sameI; simp only [Bool.and_eq_true, decide_eq_true_eq]
  constructor
  · rintro ⟨⟨⟨h1, h2⟩, h3⟩, h4⟩
    cases a; cases b; simp_all
  · rintro rfl; simp
def sameQ (a b : List MItem) : Bool := decide (a.length = b.length) && (List.range a.length).all fun i => sameI (itAt a i) (itAt b i)
theorem sameQ_iff {a b : List MItem} : sameQ a b = true ↔ a = b := by
  unfold sameQ; simp only [Bool.and_eq_true, decide_eq_true_eq, List.all_eq_true, List.mem_range]
  constructor
  · rintro ⟨h1, h2⟩
    refine List.ext_getElem h1 fun i h3 h4 => ?_; have := sameI_iff.1 (h2 i h3)
    rwa [itAt_eq h3, itAt_eq h4] at this
  · rintro rfl
    exact ⟨rfl, fun i hi => sameI_iff.2 rfl⟩
theorem sameQ_bad {a b : List MItem} {i : Nat} (h1 : i < a.length) (h2 : i < b.length) (h : sameI a[i] b[i] = false) : sameQ a b = false := by
  rw [Bool.eq_false_iff]; intro hs; have := sameQ_iff.1 hs; subst this; rw [sameI_iff.2 rfl] at h; cases h
theorem sameQ_len {a b : List MItem} (h : ¬ a.length = b.length) : sameQ a b = false := by
  unfold sameQ; rw [decide_eq_false h]; rfl
theorem sameQ_good {a b : List MItem} (h : a.length = b.length) (h2 : ∀ i (h1 : i < a.length) (h2 : i < b.length), sameI a[i] b[i] = true) : sameQ a b = true :=
  sameQ_iff.2 (List.ext_getElem h fun i h3 h4 => sameI_iff.1 (h2 i h3 h4))
def postFront (p : MPost) : Bool := queueOk p.f_Queue && decide (0 ≤ p.f_Time ∧ p.f_Time ≤ 100000) && decide (p.f_Book.length ≤ 12000) && decide (0 ≤ p.f_Sure ∧ p.f_Sure ≤ (p.f_Book.length : Int))
def postOk (p : MPost) : Bool := postFront p && decide ((play p.f_Book).2.2 = p.f_Book.length) && decide ((play p.f_Book).2.1 = p.f_Time) && sameQ (play p.f_Book).1 p.f_Queue
theorem postOk_iff {p : MPost} : postOk p = true ↔ (queueOk p.f_Queue = true ∧ (0 ≤ p.f_Time ∧ p.f_Time ≤ 100000) ∧ p.f_Book.length ≤ 12000 ∧ (0 ≤ p.f_Sure ∧ p.f_Sure ≤ (p.f_Book.length : Int))) ∧ play p.f_Book = (p.f_Queue, p.f_Time, p.f_Book.length) := by
  unfold postOk postFront; simp only [Bool.and_eq_true, decide_eq_true_eq, sameQ_iff]
  constructor
  · rintro ⟨⟨⟨⟨⟨⟨h1, h2⟩, h3⟩, h4⟩, h5⟩, h6⟩, h7⟩
    exact ⟨⟨h1, h2, h3, h4⟩, by rw [← h5, ← h6, ← h7]⟩
  · rintro ⟨⟨h1, h2, h3, h4⟩, h5⟩
    rw [h5]; exact ⟨⟨⟨⟨⟨⟨h1, h2⟩, h3⟩, h4⟩, rfl⟩, rfl⟩, rfl⟩
def putLine (x : MItem) : MLine := ⟨1, x.f_Route, x.f_Topic, x.f_Due, x.f_Bytes⟩
def takeLine (r : List UInt8) : MLine := ⟨2, r, 0, 0, []⟩
def timeLine (n : Int) : MLine := ⟨3, [], 0, n, []⟩
def fits (p : MPost) (l : MLine) : Bool := decide (p.f_Book.length + (lineBytes l).length ≤ 12000)
def dropP (p : MPost) (x : MItem) : MPost × Int :=
  if (postOk p && itemOk x && decide (p.f_Time ≤ x.f_Due)) = true then
    if ((put p.f_Queue x).2 && fits p (putLine x)) = true then (⟨(put p.f_Queue x).1, p.f_Time, p.f_Book ++ lineBytes (putLine x), p.f_Sure⟩, 0) else (p, 2)
  else (p, 1)
def fetchP (p : MPost) (r : List UInt8) : MPost × MItem × Int :=
  if (postOk p && isRoute r) = true then
    if (takeQ p.f_Queue r).2.2 = true then
      if fits p (takeLine r) = true then (⟨(takeQ p.f_Queue r).2.1, p.f_Time, p.f_Book ++ lineBytes (takeLine r), p.f_Sure⟩, (takeQ p.f_Queue r).1, 0) else (p, zItem, 2)
    else (p, zItem, 3)
  else (p, zItem, 1)
def tickP (p : MPost) (now : Int) : MPost × Int :=
  if (postOk p && decide (p.f_Time ≤ now ∧ now ≤ 100000)) = true then
    if fits p (timeLine now) = true then (⟨due p.f_Queue now, now, p.f_Book ++ lineBytes (timeLine now), p.f_Sure⟩, 0) else (p, 2)
  else (p, 1)
def syncP (p : MPost) : MPost := if postOk p = true then ⟨p.f_Queue, p.f_Time, p.f_Book, p.f_Book.length⟩ else p
def keptB (p : MPost) (keep : Int) : List UInt8 := p.f_Book.take (p.f_Sure + max 0 (min keep (p.f_Book.length - p.f_Sure))).toNat
def fallP (p : MPost) (keep : Int) : MPost :=
  if postOk p = true then ⟨(play (keptB p keep)).1, (play (keptB p keep)).2.1, (keptB p keep).take (play (keptB p keep)).2.2, ((play (keptB p keep)).2.2 : Int)⟩ else p
end Go.Proofs.YtcmckbgiiclomabGreatDoor.V
